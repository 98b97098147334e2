-- Written by program (this session's myprint.py over the kit's print.py). Not trusted: Lean checks it.
import Derived.Test.YtpmjnggkhjjiaaaAx0
import Derived.Test.YtpmjnggkhjjiaaaAx5
import Derived.Test.YtpmjnggkhjjiaaaAx6
import Derived.Test.YtpmjnggkhjjiaaaAx7
import Derived.Test.YtpmjnggkhjjiaaaHandSet
namespace Go.Proofs.Ytpmjnggkhjjiaaa.A
open Go.RowKit Go.Proofs.YtpmjnggkhjjiaaaW.PrintWords Go.Proofs.YtpmjnggkhjjiaaaW.PrintLast Go.Proofs.YtpmjnggkhjjiaaaW.PrintMore
attribute [local go_sem] str_gtr str_leq max2_int min2_int max_two min_two max_three min_three max_four min_four   -- for this text's walks alone
set_option linter.unusedVariables false
set_option linter.unusedSimpArgs false

/-! ### columbariumlaw16_WordsSets: function 7 -/
def columbariumlaw16_WordsSets.l0 : Nat → Bool → List ByteArray → List ByteArray → List ByteArray → Int → Option (Bool)
  | 0, _, _, _, _, _ => none
  | k + 1, x5, x8, x12, x14, x16 => if x16 < (x8.length : Int) then (if 0 ≤ x16 then ((columbariumref16_In.f k x12 (rdOf ByteArray.empty x8 x16)).bind fun t363 => (if t363 = true then (columbariumlaw16_WordsSets.l0 k x5 x8 x12 x14 (wrap64 (x16 + 1))) else ((columbariumref16_In.f k x14 (rdOf ByteArray.empty x8 x16)).bind fun t365 => (if t365 = true then (columbariumlaw16_WordsSets.l0 k x5 x8 x12 x14 (wrap64 (x16 + 1))) else (none))))) else (none)) else (if x5 = true then (if (x8.length : Int) ≤ (wrap64 ((x12.length : Int) + (x14.length : Int))) then (some (decide ((x8.length : Int) ≥ (mx (x12.length : Int) (x14.length : Int))))) else (none)) else (none))
def columbariumlaw16_WordsSets.f (k : Nat) (l0 : List Int) (a1 : Int) : Option (Bool) := (columbariumlaw16_awake.f k).bind fun t331 => (if 0 ≤ (mn (l0.length : Int) 12) then (if (mn (l0.length : Int) 12) ≤ (l0.length : Int) then ((columbariumlaw16_pick.f a1 ((max (mn (l0.length : Int) 12) 0) + 1)).bind fun t333 => ((columbariumlaw16_Text.f k (l0.take ((mn (l0.length : Int) 12) : Int).toNat)).bind fun t334 => ((words_Set.f t334).bind fun bt335 => (if 0 ≤ t333 then (if t333 ≤ (max (mn (l0.length : Int) 12) 0) then ((columbariumlaw16_Text.f k ((l0.take ((mn (l0.length : Int) 12) : Int).toNat).drop (t333 : Int).toNat)).bind fun t340 => ((columbariumlaw16_Text.f k ((l0.take ((mn (l0.length : Int) 12) : Int).toNat).take (t333 : Int).toNat)).bind fun t342 => (if t340.size + t342.size ≤ 9223372036854775807 then ((columbariumlaw16_Text.f k ((l0.take ((mn (l0.length : Int) 12) : Int).toNat).drop (t333 : Int).toNat)).bind fun t344 => (if (t340.size + t342.size) + t344.size ≤ 9223372036854775807 then ((words_Set.f ((t340 ++ t342) ++ t344)).bind fun bt345 => ((columbariumlaw16_Text.f k ((l0.take ((mn (l0.length : Int) 12) : Int).toNat).take (t333 : Int).toNat)).bind fun t350 => ((words_Set.f t350).bind fun bt351 => ((columbariumlaw16_Text.f k ((l0.take ((mn (l0.length : Int) 12) : Int).toNat).drop (t333 : Int).toNat)).bind fun t356 => ((words_Set.f t356).bind fun bt357 => (if bt335.2 = 0 then (if bt345.2 = 0 then (if bt351.2 = 0 then (if bt357.2 = 0 then ((columbariumref10_Texts.f k bt335.1 bt345.1).bind fun t361 => (if t361 = true then (columbariumlaw16_WordsSets.l0 k t331 bt335.1 bt351.1 bt357.1 0) else (none))) else (none)) else (none)) else (none)) else (none))))))) else (none))) else (none)))) else (none)) else (none))))) else (none)) else (none))
theorem columbariumlaw16_WordsSets.mono_l : ∀ k, (∀ y0 y1 y2 y3 y4, LeO (columbariumlaw16_WordsSets.l0 k y0 y1 y2 y3 y4) (columbariumlaw16_WordsSets.l0 (k + 1) y0 y1 y2 y3 y4))
  | 0 => fun _ _ _ _ _ r h => by simp [columbariumlaw16_WordsSets.l0] at h
  | k + 1 => by
    have ih0 := columbariumlaw16_WordsSets.mono_l k
    · intro y0 y1 y2 y3 y4
      unfold columbariumlaw16_WordsSets.l0
      repeat' first
      | (with_reducible exact ih0 _ _ _ _ _)
      | (with_reducible exact columbariumlaw16_Text.mono _ _)
      | (with_reducible exact columbariumlaw16_awake.mono _)
      | (with_reducible exact columbariumref10_Texts.mono _ _ _)
      | (with_reducible exact columbariumref16_In.mono _ _ _)
      | (with_reducible exact LeO.refl _)
      | (with_reducible exact LeO.none _)
      | (with_reducible refine LeO.ite ?_ ?_)
      | (with_reducible refine LeO.bind ?_ (fun _ => ?_))
      | exact ih0 _ _ _ _ _
      | exact columbariumlaw16_Text.mono _ _
      | exact columbariumlaw16_awake.mono _
      | exact columbariumref10_Texts.mono _ _ _
      | exact columbariumref16_In.mono _ _ _
      | exact LeO.none _
      | refine LeO.ite ?_ ?_
      | refine LeO.bind ?_ (fun _ => ?_)
theorem columbariumlaw16_WordsSets.mono : ∀ a0 a1 k, LeO (columbariumlaw16_WordsSets.f k a0 a1) (columbariumlaw16_WordsSets.f (k + 1) a0 a1) := by
  intro a0 a1 k
  have ih0 := columbariumlaw16_WordsSets.mono_l k
  unfold columbariumlaw16_WordsSets.f
  repeat' first
      | (with_reducible exact ih0 _ _ _ _ _)
      | (with_reducible exact columbariumlaw16_Text.mono _ _)
      | (with_reducible exact columbariumlaw16_awake.mono _)
      | (with_reducible exact columbariumref10_Texts.mono _ _ _)
      | (with_reducible exact columbariumref16_In.mono _ _ _)
      | (with_reducible exact LeO.refl _)
      | (with_reducible exact LeO.none _)
      | (with_reducible refine LeO.ite ?_ ?_)
      | (with_reducible refine LeO.bind ?_ (fun _ => ?_))
      | exact ih0 _ _ _ _ _
      | exact columbariumlaw16_Text.mono _ _
      | exact columbariumlaw16_awake.mono _
      | exact columbariumref10_Texts.mono _ _ _
      | exact columbariumref16_In.mono _ _ _
      | exact LeO.none _
      | refine LeO.ite ?_ ?_
      | refine LeO.bind ?_ (fun _ => ?_)
def columbariumlaw16_WordsSets.T5 : Bool × List (List Nat × List Nat) := (true, [([], []), ([], []), ([0, 1], [0, 1]), ([2], [2]), ([], []), ([], []), ([4, 5], [4, 5]), ([6, 3], [6]), ([3, 7], [3, 7]), ([], []), ([], []), ([9, 10], [9, 10]), ([11, 7], [11]), ([8, 12], [8, 12]), ([13, 12], [13]), ([14], [14]), ([15], [15]), ([15], [15]), ([16, 14, 0, 1, 2, 3, 4, 5, 6, 7, 8, 9, 10, 11, 12, 13, 14, 15, 16], [16]), ([17, 18, 0, 1, 2, 3, 4, 5, 6, 7, 8, 9, 10, 11, 12, 13, 14, 15, 16, 17, 18], [17])])
def columbariumlaw16_WordsSets.B5 : List Nat := [0, 0, 3, 7, 0, 0, 48, 127, 255, 0, 0, 1536, 3839, 8191, 16383, 32767, 65535, 65535, 131071, 524287]
theorem columbariumlaw16_WordsSets.tab5 : rtab .any (opsOf Try.f7 5) = columbariumlaw16_WordsSets.T5 := by kernel_rfl
theorem columbariumlaw16_WordsSets.bits5 : waitsOk columbariumlaw16_WordsSets.T5.2 columbariumlaw16_WordsSets.B5 = true := by kernel_rfl
set_option maxHeartbeats 8000000 in
set_option maxRecDepth 100000 in
theorem columbariumlaw16_WordsSets.calls (k : Nat) (A0 : Option Addr) (c0 : Nat) (l0 : List Int) (a1 : Int) (r : Bool) (w : World) (hr0 : Kd.C (Kd.int .i64) w A0 l0.length l0) (hc0 : l0.length ≤ c0) (h : columbariumlaw16_WordsSets.f k l0 a1 = some r) :
    Calls Try.prog 7 #[.slice A0 l0.length c0, .int .i64 a1] w fun e w' => e = .returned (.bool r) ∧ Below w.heap.size w w' := by
  have HR0 := Aside0.mk hr0
  have HC0 := Aside0.mk hc0
  clear hr0 hc0
  have HB := Aside0.mk (Below.refl w.heap.size w)
  have H : ((columbariumlaw16_awake.f k).bind fun t331 => (if 0 ≤ (mn (l0.length : Int) 12) then (if (mn (l0.length : Int) 12) ≤ (l0.length : Int) then ((columbariumlaw16_pick.f a1 ((max (mn (l0.length : Int) 12) 0) + 1)).bind fun t333 => ((columbariumlaw16_Text.f k (l0.take ((mn (l0.length : Int) 12) : Int).toNat)).bind fun t334 => ((words_Set.f t334).bind fun bt335 => (if 0 ≤ t333 then (if t333 ≤ (max (mn (l0.length : Int) 12) 0) then ((columbariumlaw16_Text.f k ((l0.take ((mn (l0.length : Int) 12) : Int).toNat).drop (t333 : Int).toNat)).bind fun t340 => ((columbariumlaw16_Text.f k ((l0.take ((mn (l0.length : Int) 12) : Int).toNat).take (t333 : Int).toNat)).bind fun t342 => (if t340.size + t342.size ≤ 9223372036854775807 then ((columbariumlaw16_Text.f k ((l0.take ((mn (l0.length : Int) 12) : Int).toNat).drop (t333 : Int).toNat)).bind fun t344 => (if (t340.size + t342.size) + t344.size ≤ 9223372036854775807 then ((words_Set.f ((t340 ++ t342) ++ t344)).bind fun bt345 => ((columbariumlaw16_Text.f k ((l0.take ((mn (l0.length : Int) 12) : Int).toNat).take (t333 : Int).toNat)).bind fun t350 => ((words_Set.f t350).bind fun bt351 => ((columbariumlaw16_Text.f k ((l0.take ((mn (l0.length : Int) 12) : Int).toNat).drop (t333 : Int).toNat)).bind fun t356 => ((words_Set.f t356).bind fun bt357 => (if bt335.2 = 0 then (if bt345.2 = 0 then (if bt351.2 = 0 then (if bt357.2 = 0 then ((columbariumref10_Texts.f k bt335.1 bt345.1).bind fun t361 => (if t361 = true then (columbariumlaw16_WordsSets.l0 k t331 bt335.1 bt351.1 bt357.1 0) else (none))) else (none)) else (none)) else (none)) else (none))))))) else (none))) else (none)))) else (none)) else (none))))) else (none)) else (none))) = some r := h
  clear h
  replace H := Option.bind_eq_some_iff.mp H
  obtain ⟨t331, A30, H⟩ := H
  replace H : (if 0 ≤ (mn (l0.length : Int) 12) then (if (mn (l0.length : Int) 12) ≤ (l0.length : Int) then ((columbariumlaw16_pick.f a1 ((max (mn (l0.length : Int) 12) 0) + 1)).bind fun t333 => ((columbariumlaw16_Text.f k (l0.take ((mn (l0.length : Int) 12) : Int).toNat)).bind fun t334 => ((words_Set.f t334).bind fun bt335 => (if 0 ≤ t333 then (if t333 ≤ (max (mn (l0.length : Int) 12) 0) then ((columbariumlaw16_Text.f k ((l0.take ((mn (l0.length : Int) 12) : Int).toNat).drop (t333 : Int).toNat)).bind fun t340 => ((columbariumlaw16_Text.f k ((l0.take ((mn (l0.length : Int) 12) : Int).toNat).take (t333 : Int).toNat)).bind fun t342 => (if t340.size + t342.size ≤ 9223372036854775807 then ((columbariumlaw16_Text.f k ((l0.take ((mn (l0.length : Int) 12) : Int).toNat).drop (t333 : Int).toNat)).bind fun t344 => (if (t340.size + t342.size) + t344.size ≤ 9223372036854775807 then ((words_Set.f ((t340 ++ t342) ++ t344)).bind fun bt345 => ((columbariumlaw16_Text.f k ((l0.take ((mn (l0.length : Int) 12) : Int).toNat).take (t333 : Int).toNat)).bind fun t350 => ((words_Set.f t350).bind fun bt351 => ((columbariumlaw16_Text.f k ((l0.take ((mn (l0.length : Int) 12) : Int).toNat).drop (t333 : Int).toNat)).bind fun t356 => ((words_Set.f t356).bind fun bt357 => (if bt335.2 = 0 then (if bt345.2 = 0 then (if bt351.2 = 0 then (if bt357.2 = 0 then ((columbariumref10_Texts.f k bt335.1 bt345.1).bind fun t361 => (if t361 = true then (columbariumlaw16_WordsSets.l0 k t331 bt335.1 bt351.1 bt357.1 0) else (none))) else (none)) else (none)) else (none)) else (none))))))) else (none))) else (none)))) else (none)) else (none))))) else (none)) else (none)) = some r := H
  have A3 := Aside0.mk A30
  clear A30
  obtain ⟨ji4, hji4⟩ : ∃ j_ : Int, (mn (l0.length : Int) 12) = j_ := ⟨_, rfl⟩
  replace H : (if 0 ≤ (ji4) then (if (ji4) ≤ (l0.length : Int) then ((columbariumlaw16_pick.f a1 ((max (ji4) 0) + 1)).bind fun t333 => ((columbariumlaw16_Text.f k (l0.take ((ji4) : Int).toNat)).bind fun t334 => ((words_Set.f t334).bind fun bt335 => (if 0 ≤ t333 then (if t333 ≤ (max (ji4) 0) then ((columbariumlaw16_Text.f k ((l0.take ((ji4) : Int).toNat).drop (t333 : Int).toNat)).bind fun t340 => ((columbariumlaw16_Text.f k ((l0.take ((ji4) : Int).toNat).take (t333 : Int).toNat)).bind fun t342 => (if t340.size + t342.size ≤ 9223372036854775807 then ((columbariumlaw16_Text.f k ((l0.take ((ji4) : Int).toNat).drop (t333 : Int).toNat)).bind fun t344 => (if (t340.size + t342.size) + t344.size ≤ 9223372036854775807 then ((words_Set.f ((t340 ++ t342) ++ t344)).bind fun bt345 => ((columbariumlaw16_Text.f k ((l0.take ((ji4) : Int).toNat).take (t333 : Int).toNat)).bind fun t350 => ((words_Set.f t350).bind fun bt351 => ((columbariumlaw16_Text.f k ((l0.take ((ji4) : Int).toNat).drop (t333 : Int).toNat)).bind fun t356 => ((words_Set.f t356).bind fun bt357 => (if bt335.2 = 0 then (if bt345.2 = 0 then (if bt351.2 = 0 then (if bt357.2 = 0 then ((columbariumref10_Texts.f k bt335.1 bt345.1).bind fun t361 => (if t361 = true then (columbariumlaw16_WordsSets.l0 k t331 bt335.1 bt351.1 bt357.1 0) else (none))) else (none)) else (none)) else (none)) else (none))))))) else (none))) else (none)))) else (none)) else (none))))) else (none)) else (none)) = some r := by first | (rw [hji4] at H; exact H) | (simp only [hji4] at H ⊢; exact H)
  (try rw [hji4] at A3)
  (try (have hji4h : ji4 ≤ 12 := by (rw [← hji4]; unfold mn; (repeat' split) <;> omega)))
  (try (have hji4g : ji4 ≤ 64 := by omega))
  (try (have hji4l : 0 ≤ ji4 := by (rw [← hji4]; unfold mn; (repeat' split) <;> omega)))
  (try (have hji4m : 0 ≤ ji4 := by omega))
  have hji4_ : (if 12 < (l0.length : Int) then 12 else (l0.length : Int)) = ji4 := hji4
  by_cases c5 : 0 ≤ (ji4)
  · rw [if_pos c5] at H
    have c5b0 := eq_true c5
    have c5b1 : decide (0 ≤ (ji4)) = true := decide_eq_true c5
    clear c5
    by_cases c6 : (ji4) ≤ (l0.length : Int)
    · rw [if_pos c6] at H
      have c6b0 := eq_true c6
      have c6b1 : decide ((ji4) ≤ (l0.length : Int)) = true := decide_eq_true c6
      clear c6
      replace H := Option.bind_eq_some_iff.mp H
      obtain ⟨t333, A70, H⟩ := H
      replace H : ((columbariumlaw16_Text.f k (l0.take ((ji4) : Int).toNat)).bind fun t334 => ((words_Set.f t334).bind fun bt335 => (if 0 ≤ t333 then (if t333 ≤ (max (ji4) 0) then ((columbariumlaw16_Text.f k ((l0.take ((ji4) : Int).toNat).drop (t333 : Int).toNat)).bind fun t340 => ((columbariumlaw16_Text.f k ((l0.take ((ji4) : Int).toNat).take (t333 : Int).toNat)).bind fun t342 => (if t340.size + t342.size ≤ 9223372036854775807 then ((columbariumlaw16_Text.f k ((l0.take ((ji4) : Int).toNat).drop (t333 : Int).toNat)).bind fun t344 => (if (t340.size + t342.size) + t344.size ≤ 9223372036854775807 then ((words_Set.f ((t340 ++ t342) ++ t344)).bind fun bt345 => ((columbariumlaw16_Text.f k ((l0.take ((ji4) : Int).toNat).take (t333 : Int).toNat)).bind fun t350 => ((words_Set.f t350).bind fun bt351 => ((columbariumlaw16_Text.f k ((l0.take ((ji4) : Int).toNat).drop (t333 : Int).toNat)).bind fun t356 => ((words_Set.f t356).bind fun bt357 => (if bt335.2 = 0 then (if bt345.2 = 0 then (if bt351.2 = 0 then (if bt357.2 = 0 then ((columbariumref10_Texts.f k bt335.1 bt345.1).bind fun t361 => (if t361 = true then (columbariumlaw16_WordsSets.l0 k t331 bt335.1 bt351.1 bt357.1 0) else (none))) else (none)) else (none)) else (none)) else (none))))))) else (none))) else (none)))) else (none)) else (none)))) = some r := H
      have A7 := Aside0.mk A70
      clear A70
      replace H := Option.bind_eq_some_iff.mp H
      obtain ⟨t334, A80, H⟩ := H
      replace H : ((words_Set.f t334).bind fun bt335 => (if 0 ≤ t333 then (if t333 ≤ (max (ji4) 0) then ((columbariumlaw16_Text.f k ((l0.take ((ji4) : Int).toNat).drop (t333 : Int).toNat)).bind fun t340 => ((columbariumlaw16_Text.f k ((l0.take ((ji4) : Int).toNat).take (t333 : Int).toNat)).bind fun t342 => (if t340.size + t342.size ≤ 9223372036854775807 then ((columbariumlaw16_Text.f k ((l0.take ((ji4) : Int).toNat).drop (t333 : Int).toNat)).bind fun t344 => (if (t340.size + t342.size) + t344.size ≤ 9223372036854775807 then ((words_Set.f ((t340 ++ t342) ++ t344)).bind fun bt345 => ((columbariumlaw16_Text.f k ((l0.take ((ji4) : Int).toNat).take (t333 : Int).toNat)).bind fun t350 => ((words_Set.f t350).bind fun bt351 => ((columbariumlaw16_Text.f k ((l0.take ((ji4) : Int).toNat).drop (t333 : Int).toNat)).bind fun t356 => ((words_Set.f t356).bind fun bt357 => (if bt335.2 = 0 then (if bt345.2 = 0 then (if bt351.2 = 0 then (if bt357.2 = 0 then ((columbariumref10_Texts.f k bt335.1 bt345.1).bind fun t361 => (if t361 = true then (columbariumlaw16_WordsSets.l0 k t331 bt335.1 bt351.1 bt357.1 0) else (none))) else (none)) else (none)) else (none)) else (none))))))) else (none))) else (none)))) else (none)) else (none))) = some r := H
      have A8 := Aside0.mk A80
      clear A80
      replace H := Option.bind_eq_some_iff.mp H
      obtain ⟨⟨t335, t338⟩, A90, H⟩ := H
      replace H : (if 0 ≤ t333 then (if t333 ≤ (max (ji4) 0) then ((columbariumlaw16_Text.f k ((l0.take ((ji4) : Int).toNat).drop (t333 : Int).toNat)).bind fun t340 => ((columbariumlaw16_Text.f k ((l0.take ((ji4) : Int).toNat).take (t333 : Int).toNat)).bind fun t342 => (if t340.size + t342.size ≤ 9223372036854775807 then ((columbariumlaw16_Text.f k ((l0.take ((ji4) : Int).toNat).drop (t333 : Int).toNat)).bind fun t344 => (if (t340.size + t342.size) + t344.size ≤ 9223372036854775807 then ((words_Set.f ((t340 ++ t342) ++ t344)).bind fun bt345 => ((columbariumlaw16_Text.f k ((l0.take ((ji4) : Int).toNat).take (t333 : Int).toNat)).bind fun t350 => ((words_Set.f t350).bind fun bt351 => ((columbariumlaw16_Text.f k ((l0.take ((ji4) : Int).toNat).drop (t333 : Int).toNat)).bind fun t356 => ((words_Set.f t356).bind fun bt357 => (if t338 = 0 then (if bt345.2 = 0 then (if bt351.2 = 0 then (if bt357.2 = 0 then ((columbariumref10_Texts.f k t335 bt345.1).bind fun t361 => (if t361 = true then (columbariumlaw16_WordsSets.l0 k t331 t335 bt351.1 bt357.1 0) else (none))) else (none)) else (none)) else (none)) else (none))))))) else (none))) else (none)))) else (none)) else (none)) = some r := H
      have A9 := Aside0.mk A90
      clear A90
      by_cases c10 : 0 ≤ t333
      · rw [if_pos c10] at H
        have c10b0 := eq_true c10
        have c10b1 : decide (0 ≤ t333) = true := decide_eq_true c10
        clear c10
        by_cases c11 : t333 ≤ (max (ji4) 0)
        · rw [if_pos c11] at H
          have c11b0 := eq_true c11
          have c11b1 : decide (t333 ≤ (max (ji4) 0)) = true := decide_eq_true c11
          have c11b7 : decide (t333 ≤ ((l0.take ((ji4) : Int).toNat).length : Int)) = true := decide_eq_true (by have h_ := of_decide_eq_true c11b1; have hji4_ : (ji4 : Int) ≤ (l0.length : Int) := of_decide_eq_true (by first | (with_reducible assumption) | assumption); simp only [List.length_take]; omega)
          clear c11
          replace H := Option.bind_eq_some_iff.mp H
          obtain ⟨t340, A120, H⟩ := H
          replace H : ((columbariumlaw16_Text.f k ((l0.take ((ji4) : Int).toNat).take (t333 : Int).toNat)).bind fun t342 => (if t340.size + t342.size ≤ 9223372036854775807 then ((columbariumlaw16_Text.f k ((l0.take ((ji4) : Int).toNat).drop (t333 : Int).toNat)).bind fun t344 => (if (t340.size + t342.size) + t344.size ≤ 9223372036854775807 then ((words_Set.f ((t340 ++ t342) ++ t344)).bind fun bt345 => ((columbariumlaw16_Text.f k ((l0.take ((ji4) : Int).toNat).take (t333 : Int).toNat)).bind fun t350 => ((words_Set.f t350).bind fun bt351 => ((columbariumlaw16_Text.f k ((l0.take ((ji4) : Int).toNat).drop (t333 : Int).toNat)).bind fun t356 => ((words_Set.f t356).bind fun bt357 => (if t338 = 0 then (if bt345.2 = 0 then (if bt351.2 = 0 then (if bt357.2 = 0 then ((columbariumref10_Texts.f k t335 bt345.1).bind fun t361 => (if t361 = true then (columbariumlaw16_WordsSets.l0 k t331 t335 bt351.1 bt357.1 0) else (none))) else (none)) else (none)) else (none)) else (none))))))) else (none))) else (none))) = some r := H
          have A12 := Aside0.mk A120
          clear A120
          have c13b0 := eq_true (of_decide_eq_true (by first | (with_reducible assumption) | assumption) : 0 ≤ t333)
          have c14b0 := eq_true (of_decide_eq_true (by first | (with_reducible assumption) | assumption) : t333 ≤ (max (ji4) 0))
          replace H := Option.bind_eq_some_iff.mp H
          obtain ⟨t342, A150, H⟩ := H
          replace H : (if t340.size + t342.size ≤ 9223372036854775807 then ((columbariumlaw16_Text.f k ((l0.take ((ji4) : Int).toNat).drop (t333 : Int).toNat)).bind fun t344 => (if (t340.size + t342.size) + t344.size ≤ 9223372036854775807 then ((words_Set.f ((t340 ++ t342) ++ t344)).bind fun bt345 => ((columbariumlaw16_Text.f k ((l0.take ((ji4) : Int).toNat).take (t333 : Int).toNat)).bind fun t350 => ((words_Set.f t350).bind fun bt351 => ((columbariumlaw16_Text.f k ((l0.take ((ji4) : Int).toNat).drop (t333 : Int).toNat)).bind fun t356 => ((words_Set.f t356).bind fun bt357 => (if t338 = 0 then (if bt345.2 = 0 then (if bt351.2 = 0 then (if bt357.2 = 0 then ((columbariumref10_Texts.f k t335 bt345.1).bind fun t361 => (if t361 = true then (columbariumlaw16_WordsSets.l0 k t331 t335 bt351.1 bt357.1 0) else (none))) else (none)) else (none)) else (none)) else (none))))))) else (none))) else (none)) = some r := H
          have A15 := Aside0.mk A150
          clear A150
          by_cases c16 : t340.size + t342.size ≤ 9223372036854775807
          · rw [if_pos c16] at H
            have c16b0 := eq_true c16
            have c16b1 : decide (t340.size + t342.size ≤ 9223372036854775807) = true := decide_eq_true c16
            try have c16b2 : (9223372036854775807 < t340.size + t342.size) = False := eq_false (Nat.not_lt.2 c16)
            have c17b0 := eq_true (of_decide_eq_true (by first | (with_reducible assumption) | assumption) : 0 ≤ t333)
            have c18b0 := eq_true (of_decide_eq_true (by first | (with_reducible assumption) | assumption) : t333 ≤ (max (ji4) 0))
            replace H := Option.bind_eq_some_iff.mp H
            obtain ⟨t344, A190, H⟩ := H
            replace H : (if (t340.size + t342.size) + t344.size ≤ 9223372036854775807 then ((words_Set.f ((t340 ++ t342) ++ t344)).bind fun bt345 => ((columbariumlaw16_Text.f k ((l0.take ((ji4) : Int).toNat).take (t333 : Int).toNat)).bind fun t350 => ((words_Set.f t350).bind fun bt351 => ((columbariumlaw16_Text.f k ((l0.take ((ji4) : Int).toNat).drop (t333 : Int).toNat)).bind fun t356 => ((words_Set.f t356).bind fun bt357 => (if t338 = 0 then (if bt345.2 = 0 then (if bt351.2 = 0 then (if bt357.2 = 0 then ((columbariumref10_Texts.f k t335 bt345.1).bind fun t361 => (if t361 = true then (columbariumlaw16_WordsSets.l0 k t331 t335 bt351.1 bt357.1 0) else (none))) else (none)) else (none)) else (none)) else (none))))))) else (none)) = some r := H
            have A19 := Aside0.mk A190
            clear A190
            by_cases c20 : (t340.size + t342.size) + t344.size ≤ 9223372036854775807
            · rw [if_pos c20] at H
              have c20b0 := eq_true c20
              have c20b1 : decide ((t340.size + t342.size) + t344.size ≤ 9223372036854775807) = true := decide_eq_true c20
              try have c20b2 : (9223372036854775807 < (t340.size + t342.size) + t344.size) = False := eq_false (Nat.not_lt.2 c20)
              replace H := Option.bind_eq_some_iff.mp H
              obtain ⟨⟨t345, t348⟩, A210, H⟩ := H
              replace H : ((columbariumlaw16_Text.f k ((l0.take ((ji4) : Int).toNat).take (t333 : Int).toNat)).bind fun t350 => ((words_Set.f t350).bind fun bt351 => ((columbariumlaw16_Text.f k ((l0.take ((ji4) : Int).toNat).drop (t333 : Int).toNat)).bind fun t356 => ((words_Set.f t356).bind fun bt357 => (if t338 = 0 then (if t348 = 0 then (if bt351.2 = 0 then (if bt357.2 = 0 then ((columbariumref10_Texts.f k t335 t345).bind fun t361 => (if t361 = true then (columbariumlaw16_WordsSets.l0 k t331 t335 bt351.1 bt357.1 0) else (none))) else (none)) else (none)) else (none)) else (none)))))) = some r := H
              have A21 := Aside0.mk A210
              clear A210
              have c22b0 := eq_true (of_decide_eq_true (by first | (with_reducible assumption) | assumption) : 0 ≤ t333)
              have c23b0 := eq_true (of_decide_eq_true (by first | (with_reducible assumption) | assumption) : t333 ≤ (max (ji4) 0))
              replace H := Option.bind_eq_some_iff.mp H
              obtain ⟨t350, A240, H⟩ := H
              replace H : ((words_Set.f t350).bind fun bt351 => ((columbariumlaw16_Text.f k ((l0.take ((ji4) : Int).toNat).drop (t333 : Int).toNat)).bind fun t356 => ((words_Set.f t356).bind fun bt357 => (if t338 = 0 then (if t348 = 0 then (if bt351.2 = 0 then (if bt357.2 = 0 then ((columbariumref10_Texts.f k t335 t345).bind fun t361 => (if t361 = true then (columbariumlaw16_WordsSets.l0 k t331 t335 bt351.1 bt357.1 0) else (none))) else (none)) else (none)) else (none)) else (none))))) = some r := H
              have A24 := Aside0.mk A240
              clear A240
              replace H := Option.bind_eq_some_iff.mp H
              obtain ⟨⟨t351, t354⟩, A250, H⟩ := H
              replace H : ((columbariumlaw16_Text.f k ((l0.take ((ji4) : Int).toNat).drop (t333 : Int).toNat)).bind fun t356 => ((words_Set.f t356).bind fun bt357 => (if t338 = 0 then (if t348 = 0 then (if t354 = 0 then (if bt357.2 = 0 then ((columbariumref10_Texts.f k t335 t345).bind fun t361 => (if t361 = true then (columbariumlaw16_WordsSets.l0 k t331 t335 t351 bt357.1 0) else (none))) else (none)) else (none)) else (none)) else (none)))) = some r := H
              have A25 := Aside0.mk A250
              clear A250
              have c26b0 := eq_true (of_decide_eq_true (by first | (with_reducible assumption) | assumption) : 0 ≤ t333)
              have c27b0 := eq_true (of_decide_eq_true (by first | (with_reducible assumption) | assumption) : t333 ≤ (max (ji4) 0))
              replace H := Option.bind_eq_some_iff.mp H
              obtain ⟨t356, A280, H⟩ := H
              replace H : ((words_Set.f t356).bind fun bt357 => (if t338 = 0 then (if t348 = 0 then (if t354 = 0 then (if bt357.2 = 0 then ((columbariumref10_Texts.f k t335 t345).bind fun t361 => (if t361 = true then (columbariumlaw16_WordsSets.l0 k t331 t335 t351 bt357.1 0) else (none))) else (none)) else (none)) else (none)) else (none))) = some r := H
              have A28 := Aside0.mk A280
              clear A280
              replace H := Option.bind_eq_some_iff.mp H
              obtain ⟨⟨t357, t360⟩, A290, H⟩ := H
              replace H : (if t338 = 0 then (if t348 = 0 then (if t354 = 0 then (if t360 = 0 then ((columbariumref10_Texts.f k t335 t345).bind fun t361 => (if t361 = true then (columbariumlaw16_WordsSets.l0 k t331 t335 t351 t357 0) else (none))) else (none)) else (none)) else (none)) else (none)) = some r := H
              have A29 := Aside0.mk A290
              clear A290
              by_cases c30 : t338 = 0
              · rw [if_pos c30] at H
                have c30b0 : (t338 == 0) = true := beq_iff_eq.mpr c30
                have c30b1 : (t338 != 0) = false := bne_eq_false_iff_eq.mpr c30
                clear c30
                by_cases c31 : t348 = 0
                · rw [if_pos c31] at H
                  have c31b0 : (t348 == 0) = true := beq_iff_eq.mpr c31
                  have c31b1 : (t348 != 0) = false := bne_eq_false_iff_eq.mpr c31
                  clear c31
                  by_cases c32 : t354 = 0
                  · rw [if_pos c32] at H
                    have c32b0 : (t354 == 0) = true := beq_iff_eq.mpr c32
                    have c32b1 : (t354 != 0) = false := bne_eq_false_iff_eq.mpr c32
                    clear c32
                    by_cases c33 : t360 = 0
                    · rw [if_pos c33] at H
                      have c33b0 : (t360 == 0) = true := beq_iff_eq.mpr c33
                      have c33b1 : (t360 != 0) = false := bne_eq_false_iff_eq.mpr c33
                      clear c33
                      replace H := Option.bind_eq_some_iff.mp H
                      obtain ⟨t361, A340, H⟩ := H
                      replace H : (if t361 = true then (columbariumlaw16_WordsSets.l0 k t331 t335 t351 t357 0) else (none)) = some r := H
                      have A34 := Aside0.mk A340
                      clear A340
                      by_cases c35 : t361 = true
                      · subst c35
                        have H1 : (columbariumlaw16_WordsSets.l0 k t331 t335 t351 t357 0) = some r := by rw [if_pos rfl] at H; exact H
                        clear H
                        have H := H1
                        clear H1
                        have H' := Aside0.mk H
                        clear H
                        go_enter Try.func7, Try.ntmps7
                        try go_wp2_with (first | ((with_reducible refine gate_callee (f := 8) rfl ?_); refine goesL_ (some 17) rfl rfl Try.func8 (by kernel_rfl) rfl #[] rfl (by (try simp only [List.map_toArray, List.map_cons, List.map_nil]); first | done | rfl | (simp only [List.length_drop, List.length_take]; rfl)) ?_; (with_reducible refine (columbariumlaw16_awake.calls k  t331 _ A3.out).mono ?_); rintro e w36 ⟨rfl, hb⟩; refine ⟨_, rfl, ?_⟩; have n0_ := Aside0.mk (below_step (by repeat (first | (with_reducible first | exact HB.out | apply below_alloc | apply pw_below_drewN | apply below_drew1) | exact HB.out)) hb); clear HB; have HB := n0_; clear n0_; (try clear hb); (try clear hb2); (try clear hk); (try clear hi); obtain ⟨i037, hi037, _, hsz37, _⟩ := info_parts info3; obtain ⟨hcut37, hA37, hC37⟩ := print_take_of (P := Try.prog) (Value.int .i64) 0 22 3 .i64 Try.underlying22 hi037 hsz37 A0 c0 l0 (ji4) (of_decide_eq_true (by first | (with_reducible assumption) | assumption)) (of_decide_eq_true (by first | (with_reducible assumption) | assumption)) HC0.out; have HR332 := Aside0.mk (Kd.C_of_reads (h1 := fun _ => rfl) (hA37 _ (Kd.reads_of_C HR0.out))); have HC332 := Aside0.mk hC37; clear hA37 hC37 hi037 hsz37) | ((with_reducible refine gate_callee (f := 18) rfl ?_); refine goesL_ (some 27) rfl rfl Try.func18 (by kernel_rfl) rfl #[.int .i64 a1, .int .i64 ((max (ji4) 0) + 1)] rfl (by (try simp only [List.map_toArray, List.map_cons, List.map_nil]); first | done | (simp only [hji4]; rfl) | rfl | (simp only [List.length_drop, List.length_take]; rfl)) ?_; (with_reducible refine (columbariumlaw16_pick.calls a1 ((max (ji4) 0) + 1) t333 _ A7.out).mono ?_); rintro e w' ⟨rfl, ⟨nd, rfl⟩⟩; refine ⟨_, rfl, ?_⟩) | ((with_reducible refine gate_callee (f := 9) rfl ?_); refine goesL_ (some 30) rfl rfl Try.func9 (by kernel_rfl) rfl #[.slice A0 (l0.take ((ji4) : Int).toNat).length c0] rfl (by (try simp only [List.map_toArray, List.map_cons, List.map_nil]); first | done | (rw [show (l0.take ((ji4) : Int).toNat).length = (ji4).toNat from (by rw [List.length_take]; have h_ : ((ji4) : Int) ≤ (l0.length : Int) := of_decide_eq_true (by first | (with_reducible assumption) | assumption); omega)] <;> rfl) | (simp only [hji4]; rfl) | rfl | (simp only [List.length_drop, List.length_take]; rfl)) ?_; (with_reducible refine (columbariumlaw16_Text.calls k _ _ (l0.take ((ji4) : Int).toNat) t334 _ ?side1 ?side2 A8.out).mono ?_); (case side1 => repeat (first | exact (Kd.C_below HR332.out (by repeat (first | (with_reducible first | exact HB.out | apply below_alloc | apply pw_below_drewN | apply below_drew1) | exact HB.out))) | (with_reducible refine Kd.C_alloc ?_ _) | (with_reducible refine Kd.C_drewN ?_ _) | (with_reducible refine Kd.C_drew ?_))); (case side2 => exact HC332.out); rintro e w38 ⟨rfl, hb⟩; refine ⟨_, rfl, ?_⟩; have n0_ := Aside0.mk (below_step (by repeat (first | (with_reducible first | exact HB.out | apply below_alloc | apply pw_below_drewN | apply below_drew1) | exact HB.out)) hb); clear HB; have HB := n0_; clear n0_; (try clear hb); (try clear hb2); (try clear hk); (try clear hi)) | ((with_reducible refine gate_callee (f := 13) rfl ?_); refine goesL_ (some 31) rfl rfl Try.func13 (by kernel_rfl) rfl #[.string t334] rfl (by (try simp only [List.map_toArray, List.map_cons, List.map_nil]); first | done | rfl | (simp only [List.length_drop, List.length_take]; rfl)) ?_; (with_reducible refine (words_Set.calls t334 t335 t338 _ A9.out).mono ?_); rintro e w39 ⟨v336, rfl, ho0, hb⟩; refine ⟨_, rfl, ?_⟩; have n0_ := Aside0.mk (Kd.V_lower (Kd.V_mono (ok' := fun k_ => True) ho0 (fun k_ hk_ => trivial)) (below_size (by repeat (first | (with_reducible first | exact HB.out | apply below_alloc | apply pw_below_drewN | apply below_drew1) | exact HB.out)))); have n1_ := Aside0.mk (below_step (by repeat (first | (with_reducible first | exact HB.out | apply below_alloc | apply pw_below_drewN | apply below_drew1) | exact HB.out)) hb); clear HB; have HO337 := n0_; have HB := n1_; clear n0_ n1_; (try clear hb); (try clear hb2); (try clear hk); (try clear hi); (try clear ho0)))
                        have n0_ := Aside0.mk (Kd.V_drew HO337.out)
                        have n1_ := Aside0.mk (below_drew1 HB.out)
                        clear HO337
                        clear HB
                        have HO337 := n0_
                        have HB := n1_
                        clear n0_ n1_
                        obtain ⟨i041, hi041, _, hsz41, _⟩ := info_parts info3
                        obtain ⟨A41, hcut41, hA41, hC41⟩ := print_drop_of (P := Try.prog) (Value.int .i64) 0 22 3 .i64 Try.underlying22 hi041 hsz41 A0 c0 (l0.take ((ji4) : Int).toNat) t333 (of_decide_eq_true (by first | (with_reducible assumption) | assumption)) (of_decide_eq_true (by first | (with_reducible assumption) | assumption)) HC332.out
                        have hl41_ : (l0.take ((ji4) : Int).toNat).length = ((ji4) : Int).toNat := (by rw [List.length_take]; have h_ : ((ji4) : Int) ≤ (l0.length : Int) := of_decide_eq_true (by first | (with_reducible assumption) | assumption); omega)
                        (try rw [show ((l0.take ((ji4) : Int).toNat).drop (t333 : Int).toNat).length = ((ji4) : Int).toNat - (t333 : Int).toNat from (by rw [List.length_drop, hl41_])] at hcut41)
                        (try rw [hl41_] at hcut41)
                        clear hl41_
                        have HR339 := Aside0.mk (Kd.C_of_reads (h1 := fun _ => rfl) (hA41 _ (Kd.reads_of_C HR332.out)))
                        have HC339 := Aside0.mk hC41
                        clear hA41 hC41 hi041 hsz41
                        obtain ⟨i042, hi042, _, hsz42, _⟩ := info_parts info3
                        obtain ⟨hcut42, hA42, hC42⟩ := print_take_of (P := Try.prog) (Value.int .i64) 0 22 3 .i64 Try.underlying22 hi042 hsz42 A0 c0 (l0.take ((ji4) : Int).toNat) t333 (of_decide_eq_true (by first | (with_reducible assumption) | assumption)) (of_decide_eq_true (by first | (with_reducible assumption) | assumption)) HC332.out
                        have hl42_ : (l0.take ((ji4) : Int).toNat).length = ((ji4) : Int).toNat := (by rw [List.length_take]; have h_ : ((ji4) : Int) ≤ (l0.length : Int) := of_decide_eq_true (by first | (with_reducible assumption) | assumption); omega)
                        (try rw [show ((l0.take ((ji4) : Int).toNat).take (t333 : Int).toNat).length = (t333 : Int).toNat from (by rw [List.length_take, hl42_]; have h_ : (t333 : Int) ≤ ((l0.take ((ji4) : Int).toNat).length : Int) := of_decide_eq_true (by first | (with_reducible assumption) | assumption); rw [hl42_] at h_; omega)] at hcut42)
                        (try rw [hl42_] at hcut42)
                        clear hl42_
                        have HR341 := Aside0.mk (Kd.C_of_reads (h1 := fun _ => rfl) (hA42 _ (Kd.reads_of_C HR332.out)))
                        have HC341 := Aside0.mk hC42
                        clear hA42 hC42 hi042 hsz42
                        obtain ⟨i043, hi043, _, hsz43, _⟩ := info_parts info3
                        have HR343 := HR339
                        have HC343 := HC339
                        refine start_ (n := 20) (S := fun w' => True) (ds := []) #[false, false, false, false, false, false, false, false, false, false, false, false, false, false, false, false, false, false, false, false] (by kernel_rfl) rfl rfl trivial (fun hHeld => ?_); refine with_tabW columbariumlaw16_WordsSets.tab5 columbariumlaw16_WordsSets.bits5 (fun HT_ HW_ => ?_)
                        generalize w39.drew = w40 at HO337 HB HR339 HR341 HR343 hHeld ⊢
                        refine pure_ (i := 0) (N := some 35) (v := ?_) (a' := ?_) #[true, false, false, false, false, false, false, false, false, false, false, false, false, false, false, false, false, false, false, false] rfl rfl (any_of HT_.out (by kernel_rfl)) (fun _ _ _ h => h) (Or.inl ⟨by rfl, ?_⟩) ?_ ?_
                        rotate_left
                        · intro w'
                          go_simp
                          with_reducible rfl
                        rotate_left
                        · simp only [Act.put, List.setIfInBounds_toArray, List.set_cons_zero, List.set_cons_succ, i64_w, i32_w]
                          rfl
                        refine pure_ (i := 1) (N := some 36) (v := ?_) (a' := ?_) #[true, true, false, false, false, false, false, false, false, false, false, false, false, false, false, false, false, false, false, false] rfl rfl (any_of HT_.out (by kernel_rfl)) (fun _ _ _ h => h) (Or.inl ⟨by rfl, ?_⟩) ?_ ?_
                        rotate_left
                        · intro w'
                          go_simp
                          with_reducible rfl
                        rotate_left
                        · simp only [Act.put, List.setIfInBounds_toArray, List.set_cons_zero, List.set_cons_succ, i64_w, i32_w]
                          rfl
                        refine pure_ (i := 2) (N := some 37) (v := ?_) (a' := ?_) #[true, true, true, false, false, false, false, false, false, false, false, false, false, false, false, false, false, false, false, false] rfl rfl (any_of HT_.out (by kernel_rfl)) (fun _ _ _ h => h) (Or.inl ⟨by rfl, ?_⟩) ?_ ?_
                        rotate_left
                        · intro w'
                          go_simp
                          with_reducible rfl
                        rotate_left
                        · simp only [Act.put, List.setIfInBounds_toArray, List.set_cons_zero, List.set_cons_succ, i64_w, i32_w]
                          rfl
                        refine pure_ (i := 4) (N := some 39) (v := ?_) (a' := ?_) #[true, true, true, false, true, false, false, false, false, false, false, false, false, false, false, false, false, false, false, false] rfl rfl (any_of HT_.out (by kernel_rfl)) (fun _ _ _ h => h) (Or.inl ⟨by rfl, ?_⟩) ?_ ?_
                        rotate_left
                        · intro w'
                          go_simp
                          with_reducible rfl
                        rotate_left
                        · simp only [Act.put, List.setIfInBounds_toArray, List.set_cons_zero, List.set_cons_succ, i64_w, i32_w]
                          rfl
                        refine pure_ (i := 5) (N := some 40) (v := ?_) (a' := ?_) #[true, true, true, false, true, true, false, false, false, false, false, false, false, false, false, false, false, false, false, false] rfl rfl (any_of HT_.out (by kernel_rfl)) (fun _ _ _ h => h) (Or.inl ⟨by rfl, ?_⟩) ?_ ?_
                        rotate_left
                        · intro w'
                          go_simp
                          with_reducible rfl
                        rotate_left
                        · simp only [Act.put, List.setIfInBounds_toArray, List.set_cons_zero, List.set_cons_succ, i64_w, i32_w]
                          rfl
                        refine pure_ (i := 6) (N := some 41) (v := ?_) (a' := ?_) #[true, true, true, false, true, true, true, false, false, false, false, false, false, false, false, false, false, false, false, false] rfl rfl (any_of HT_.out (by kernel_rfl)) (fun _ _ _ h => h) (Or.inl ⟨by rfl, ?_⟩) ?_ ?_
                        rotate_left
                        · intro w'
                          go_simp
                          with_reducible rfl
                        rotate_left
                        · simp only [Act.put, List.setIfInBounds_toArray, List.set_cons_zero, List.set_cons_succ, i64_w, i32_w]
                          rfl
                        refine pure_ (i := 9) (N := some 44) (v := ?_) (a' := ?_) #[true, true, true, false, true, true, true, false, false, true, false, false, false, false, false, false, false, false, false, false] rfl rfl (any_of HT_.out (by kernel_rfl)) (fun _ _ _ h => h) (Or.inl ⟨by rfl, ?_⟩) ?_ ?_
                        rotate_left
                        · intro w'
                          go_simp
                          with_reducible rfl
                        rotate_left
                        · simp only [Act.put, List.setIfInBounds_toArray, List.set_cons_zero, List.set_cons_succ, i64_w, i32_w]
                          rfl
                        refine pure_ (i := 10) (N := some 45) (v := ?_) (a' := ?_) #[true, true, true, false, true, true, true, false, false, true, true, false, false, false, false, false, false, false, false, false] rfl rfl (any_of HT_.out (by kernel_rfl)) (fun _ _ _ h => h) (Or.inl ⟨by rfl, ?_⟩) ?_ ?_
                        rotate_left
                        · intro w'
                          go_simp
                          with_reducible rfl
                        rotate_left
                        · simp only [Act.put, List.setIfInBounds_toArray, List.set_cons_zero, List.set_cons_succ, i64_w, i32_w]
                          rfl
                        refine pure_ (i := 11) (N := some 46) (v := ?_) (a' := ?_) #[true, true, true, false, true, true, true, false, false, true, true, true, false, false, false, false, false, false, false, false] rfl rfl (any_of HT_.out (by kernel_rfl)) (fun _ _ _ h => h) (Or.inl ⟨by rfl, ?_⟩) ?_ ?_
                        rotate_left
                        · intro w'
                          go_simp
                          with_reducible rfl
                        rotate_left
                        · simp only [Act.put, List.setIfInBounds_toArray, List.set_cons_zero, List.set_cons_succ, i64_w, i32_w]
                          rfl
                        refine one_ (i := 3) (N := some 38) #[true, true, true, true, true, true, true, false, false, true, true, true, false, false, false, false, false, false, false, false] rfl rfl (one_of HT_.out (by kernel_rfl)) (by decide) (fun K hK => ?_)
                        refine goes_ Try.func9 (by kernel_rfl) rfl #[.slice A41 ((l0.take ((ji4) : Int).toNat).drop (t333 : Int).toNat).length (c0 - t333.toNat)] (by rfl) rfl rfl (by (try simp only [List.map_toArray, List.map_cons, List.map_nil]); first | done | (rw [show ((l0.take ((ji4) : Int).toNat).drop (t333 : Int).toNat).length = ((l0.take ((ji4) : Int).toNat).length - t333.toNat) from List.length_drop] <;> rfl) | (rw [List.length_drop, show (l0.take ((ji4) : Int).toNat).length = ((ji4) : Int).toNat from (by rw [List.length_take]; have h_ : ((ji4) : Int) ≤ (l0.length : Int) := of_decide_eq_true (by first | (with_reducible assumption) | assumption); omega)] <;> rfl) | (simp only [hji4]; rfl) | rfl | (simp only [List.length_drop, List.length_take]; rfl)) ?_
                        with_reducible refine (columbariumlaw16_Text.calls k _ _ ((l0.take ((ji4) : Int).toNat).drop (t333 : Int).toNat) t340 _ ?side1 ?side2 A12.out).mono ?_
                        (case side1 => repeat (first | exact (Kd.C_below HR339.out HB.out) | (with_reducible refine Kd.C_alloc ?_ _) | (with_reducible refine Kd.C_drewN ?_ _) | (with_reducible refine Kd.C_drew ?_)))
                        (case side2 => exact HC339.out)
                        rintro e w44 ⟨rfl, hb⟩
                        refine ⟨_, rfl, ?_⟩
                        have n0_ := Aside0.mk (Kd.V_below (by (with_reducible repeat (first | apply Kd.V_alloc | apply Kd.V_drewN | apply Kd.V_drew)); exact HO337.out) hb)
                        have n1_ := Aside0.mk (below_step (by repeat (first | (with_reducible first | exact HB.out | apply below_alloc | apply pw_below_drewN | apply below_drew1) | exact HB.out)) hb)
                        clear HO337
                        clear HB
                        have HO337 := n0_
                        have HB := n1_
                        clear n0_ n1_
                        (try clear hb)
                        (try clear hb2)
                        (try clear hk)
                        (try clear hi)
                        refine hK.out _ _ trivial (fun hHeld => ?_)
                        clear hK K
                        refine norm_ (a' := ?_) ?_ ?_
                        rotate_left
                        · show Act.put _ (some 38) _ = _
                          simp only [Act.put, List.setIfInBounds_toArray, List.set_cons_zero, List.set_cons_succ, i64_w, i32_w]
                          rfl
                        refine one_ (i := 7) (N := some 42) #[true, true, true, true, true, true, true, true, false, true, true, true, false, false, false, false, false, false, false, false] rfl rfl (one_of HT_.out (by kernel_rfl)) (by decide) (fun K hK => ?_)
                        refine goes_ Try.func9 (by kernel_rfl) rfl #[.slice A0 ((l0.take ((ji4) : Int).toNat).take (t333 : Int).toNat).length c0] (by rfl) rfl rfl (by (try simp only [List.map_toArray, List.map_cons, List.map_nil]); first | done | (rw [show ((l0.take ((ji4) : Int).toNat).take (t333 : Int).toNat).length = t333.toNat from (by rw [List.length_take]; have h_ : (t333 : Int) ≤ ((l0.take ((ji4) : Int).toNat).length : Int) := of_decide_eq_true (by first | (with_reducible assumption) | assumption); omega)] <;> rfl) | (simp only [hji4]; rfl) | rfl | (simp only [List.length_drop, List.length_take]; rfl)) ?_
                        with_reducible refine (columbariumlaw16_Text.calls k _ _ ((l0.take ((ji4) : Int).toNat).take (t333 : Int).toNat) t342 _ ?side1 ?side2 A15.out).mono ?_
                        (case side1 => repeat (first | exact (Kd.C_below HR341.out HB.out) | (with_reducible refine Kd.C_alloc ?_ _) | (with_reducible refine Kd.C_drewN ?_ _) | (with_reducible refine Kd.C_drew ?_)))
                        (case side2 => exact HC341.out)
                        rintro e w45 ⟨rfl, hb⟩
                        refine ⟨_, rfl, ?_⟩
                        have n0_ := Aside0.mk (Kd.V_below (by (with_reducible repeat (first | apply Kd.V_alloc | apply Kd.V_drewN | apply Kd.V_drew)); exact HO337.out) hb)
                        have n1_ := Aside0.mk (below_step (by repeat (first | (with_reducible first | exact HB.out | apply below_alloc | apply pw_below_drewN | apply below_drew1) | exact HB.out)) hb)
                        clear HO337
                        clear HB
                        have HO337 := n0_
                        have HB := n1_
                        clear n0_ n1_
                        (try clear hb)
                        (try clear hb2)
                        (try clear hk)
                        (try clear hi)
                        refine hK.out _ _ trivial (fun hHeld => ?_)
                        clear hK K
                        refine norm_ (a' := ?_) ?_ ?_
                        rotate_left
                        · show Act.put _ (some 42) _ = _
                          simp only [Act.put, List.setIfInBounds_toArray, List.set_cons_zero, List.set_cons_succ, i64_w, i32_w]
                          rfl
                        refine pure_ (i := 8) (N := some 43) (v := ?_) (a' := ?_) #[true, true, true, true, true, true, true, true, true, true, true, true, false, false, false, false, false, false, false, false] rfl rfl (any_of HT_.out (by kernel_rfl)) (fun _ _ _ h => h) (Or.inl ⟨by rfl, ?_⟩) ?_ ?_
                        rotate_left
                        · intro w'
                          go_simp
                          with_reducible rfl
                        rotate_left
                        · simp only [Act.put, List.setIfInBounds_toArray, List.set_cons_zero, List.set_cons_succ, i64_w, i32_w]
                          rfl
                        refine one_ (i := 12) (N := some 47) #[true, true, true, true, true, true, true, true, true, true, true, true, true, false, false, false, false, false, false, false] rfl rfl (one_of HT_.out (by kernel_rfl)) (by decide) (fun K hK => ?_)
                        refine goes_ Try.func9 (by kernel_rfl) rfl #[.slice A41 ((l0.take ((ji4) : Int).toNat).drop (t333 : Int).toNat).length (c0 - t333.toNat)] (by rfl) rfl rfl (by (try simp only [List.map_toArray, List.map_cons, List.map_nil]); first | done | (rw [show ((l0.take ((ji4) : Int).toNat).drop (t333 : Int).toNat).length = ((l0.take ((ji4) : Int).toNat).length - t333.toNat) from List.length_drop] <;> rfl) | (rw [List.length_drop, show (l0.take ((ji4) : Int).toNat).length = ((ji4) : Int).toNat from (by rw [List.length_take]; have h_ : ((ji4) : Int) ≤ (l0.length : Int) := of_decide_eq_true (by first | (with_reducible assumption) | assumption); omega)] <;> rfl) | (simp only [hji4]; rfl) | rfl | (simp only [List.length_drop, List.length_take]; rfl)) ?_
                        with_reducible refine (columbariumlaw16_Text.calls k _ _ ((l0.take ((ji4) : Int).toNat).drop (t333 : Int).toNat) t344 _ ?side1 ?side2 A19.out).mono ?_
                        (case side1 => repeat (first | exact (Kd.C_below HR343.out HB.out) | (with_reducible refine Kd.C_alloc ?_ _) | (with_reducible refine Kd.C_drewN ?_ _) | (with_reducible refine Kd.C_drew ?_)))
                        (case side2 => exact HC343.out)
                        rintro e w46 ⟨rfl, hb⟩
                        refine ⟨_, rfl, ?_⟩
                        have n0_ := Aside0.mk (Kd.V_below (by (with_reducible repeat (first | apply Kd.V_alloc | apply Kd.V_drewN | apply Kd.V_drew)); exact HO337.out) hb)
                        have n1_ := Aside0.mk (below_step (by repeat (first | (with_reducible first | exact HB.out | apply below_alloc | apply pw_below_drewN | apply below_drew1) | exact HB.out)) hb)
                        clear HO337
                        clear HB
                        have HO337 := n0_
                        have HB := n1_
                        clear n0_ n1_
                        (try clear hb)
                        (try clear hb2)
                        (try clear hk)
                        (try clear hi)
                        refine hK.out _ _ trivial (fun hHeld => ?_)
                        clear hK K
                        refine norm_ (a' := ?_) ?_ ?_
                        rotate_left
                        · show Act.put _ (some 47) _ = _
                          simp only [Act.put, List.setIfInBounds_toArray, List.set_cons_zero, List.set_cons_succ, i64_w, i32_w]
                          rfl
                        refine pure_ (i := 13) (N := some 48) (v := ?_) (a' := ?_) #[true, true, true, true, true, true, true, true, true, true, true, true, true, true, false, false, false, false, false, false] rfl rfl (any_of HT_.out (by kernel_rfl)) (fun _ _ _ h => h) (Or.inl ⟨by rfl, ?_⟩) ?_ ?_
                        rotate_left
                        · intro w'
                          go_simp
                          with_reducible rfl
                        rotate_left
                        · simp only [Act.put, List.setIfInBounds_toArray, List.set_cons_zero, List.set_cons_succ, i64_w, i32_w]
                          rfl
                        refine one_ (i := 14) (N := some 49) #[true, true, true, true, true, true, true, true, true, true, true, true, true, true, true, false, false, false, false, false] rfl rfl (one_of HT_.out (by kernel_rfl)) (by decide) (fun K hK => ?_)
                        refine goes_ Try.func13 (by kernel_rfl) rfl #[.string ((t340 ++ t342) ++ t344)] (by rfl) rfl rfl (by (try simp only [List.map_toArray, List.map_cons, List.map_nil]); first | done | rfl | (simp only [List.length_drop, List.length_take]; rfl)) ?_
                        with_reducible refine (words_Set.calls ((t340 ++ t342) ++ t344) t345 t348 _ A21.out).mono ?_
                        rintro e w47 ⟨v346, rfl, ho0, hb⟩
                        refine ⟨_, rfl, ?_⟩
                        have n0_ := Aside0.mk (Kd.V_below (by (with_reducible repeat (first | apply Kd.V_alloc | apply Kd.V_drewN | apply Kd.V_drew)); exact HO337.out) hb)
                        have n1_ := Aside0.mk (Kd.V_lower (Kd.V_mono (ok' := fun k_ => True) ho0 (fun k_ hk_ => trivial)) (below_size (by repeat (first | (with_reducible first | exact HB.out | apply below_alloc | apply pw_below_drewN | apply below_drew1) | exact HB.out))))
                        have n2_ := Aside0.mk (below_step (by repeat (first | (with_reducible first | exact HB.out | apply below_alloc | apply pw_below_drewN | apply below_drew1) | exact HB.out)) hb)
                        clear HO337
                        clear HB
                        have HO337 := n0_
                        have HO347 := n1_
                        have HB := n2_
                        clear n0_ n1_ n2_
                        (try clear hb)
                        (try clear hb2)
                        (try clear hk)
                        (try clear hi)
                        (try clear ho0)
                        refine hK.out _ _ trivial (fun hHeld => ?_)
                        clear hK K
                        refine norm_ (a' := ?_) ?_ ?_
                        rotate_left
                        · show Act.put _ (some 49) _ = _
                          simp only [Act.put, List.setIfInBounds_toArray, List.set_cons_zero, List.set_cons_succ, i64_w, i32_w]
                          rfl
                        refine pure_ (i := 15) (N := some 34) (v := ?_) (a' := ?_) #[true, true, true, true, true, true, true, true, true, true, true, true, true, true, true, true, false, false, false, false] rfl rfl (any_of HT_.out (by kernel_rfl)) (fun _ _ _ h => h) (Or.inl ⟨by rfl, ?_⟩) ?_ ?_
                        rotate_left
                        · intro w'
                          go_simp
                          with_reducible rfl
                        rotate_left
                        · simp only [Act.put, List.setIfInBounds_toArray, List.set_cons_zero, List.set_cons_succ, i64_w, i32_w]
                          rfl
                        refine pure_ (i := 16) (N := some 50) (v := ?_) (a' := ?_) #[true, true, true, true, true, true, true, true, true, true, true, true, true, true, true, true, true, false, false, false] rfl rfl (any_of HT_.out (by kernel_rfl)) (fun _ _ _ h => h) (Or.inl ⟨by rfl, ?_⟩) ?_ ?_
                        rotate_left
                        · intro w'
                          go_simp
                          with_reducible rfl
                        rotate_left
                        · simp only [Act.put, List.setIfInBounds_toArray, List.set_cons_zero, List.set_cons_succ, i64_w, i32_w]
                          rfl
                        refine pure_ (i := 17) (N := some 51) (v := ?_) (a' := ?_) #[true, true, true, true, true, true, true, true, true, true, true, true, true, true, true, true, true, true, false, false] rfl rfl (any_of HT_.out (by kernel_rfl)) (fun _ _ _ h => h) (Or.inl ⟨by rfl, ?_⟩) ?_ ?_
                        rotate_left
                        · intro w'
                          go_simp
                          with_reducible rfl
                        rotate_left
                        · simp only [Act.put, List.setIfInBounds_toArray, List.set_cons_zero, List.set_cons_succ, i64_w, i32_w]
                          rfl
                        refine pure_ (i := 18) (N := some 10) (v := ?_) (a' := ?_) #[true, true, true, true, true, true, true, true, true, true, true, true, true, true, true, true, true, true, true, false] rfl rfl (any_of HT_.out (by kernel_rfl)) (fun _ _ _ h => h) (Or.inl ⟨by rfl, ?_⟩) ?_ ?_
                        rotate_left
                        · intro w'
                          go_simp
                          with_reducible rfl
                        rotate_left
                        · simp only [Act.put, List.setIfInBounds_toArray, List.set_cons_zero, List.set_cons_succ, i64_w, i32_w]
                          rfl
                        refine pure_ (i := 19) (N := some 11) (v := ?_) (a' := ?_) #[true, true, true, true, true, true, true, true, true, true, true, true, true, true, true, true, true, true, true, true] rfl rfl (any_of HT_.out (by kernel_rfl)) (fun _ _ _ h => h) (Or.inl ⟨by rfl, ?_⟩) ?_ ?_
                        rotate_left
                        · intro w'
                          go_simp
                          with_reducible rfl
                        rotate_left
                        · simp only [Act.put, List.setIfInBounds_toArray, List.set_cons_zero, List.set_cons_succ, i64_w, i32_w]
                          rfl
                        refine done_ (done_of HT_.out (by kernel_rfl)) ?_
                        obtain ⟨i048, hi048, _, hsz48, _⟩ := info_parts info3
                        obtain ⟨hcut48, hA48, hC48⟩ := print_take_of (P := Try.prog) (Value.int .i64) 0 22 3 .i64 Try.underlying22 hi048 hsz48 A0 c0 (l0.take ((ji4) : Int).toNat) t333 (of_decide_eq_true (by first | (with_reducible assumption) | assumption)) (of_decide_eq_true (by first | (with_reducible assumption) | assumption)) HC332.out
                        have hl48_ : (l0.take ((ji4) : Int).toNat).length = ((ji4) : Int).toNat := (by rw [List.length_take]; have h_ : ((ji4) : Int) ≤ (l0.length : Int) := of_decide_eq_true (by first | (with_reducible assumption) | assumption); omega)
                        (try rw [show ((l0.take ((ji4) : Int).toNat).take (t333 : Int).toNat).length = (t333 : Int).toNat from (by rw [List.length_take, hl48_]; have h_ : (t333 : Int) ≤ ((l0.take ((ji4) : Int).toNat).length : Int) := of_decide_eq_true (by first | (with_reducible assumption) | assumption); rw [hl48_] at h_; omega)] at hcut48)
                        (try rw [hl48_] at hcut48)
                        clear hl48_
                        have HR349 := Aside0.mk (Kd.C_of_reads (h1 := fun _ => rfl) (hA48 _ (Kd.reads_of_C HR332.out)))
                        have HC349 := Aside0.mk hC48
                        clear hA48 hC48 hi048 hsz48
                        try go_wp2_with (first | ((with_reducible refine gate_callee (f := 9) rfl ?_); refine goesL_ (some 56) rfl rfl Try.func9 (by kernel_rfl) rfl #[.slice A0 ((l0.take ((ji4) : Int).toNat).take (t333 : Int).toNat).length c0] rfl (by (try simp only [List.map_toArray, List.map_cons, List.map_nil]); first | done | (rw [show ((l0.take ((ji4) : Int).toNat).take (t333 : Int).toNat).length = t333.toNat from (by rw [List.length_take]; have h_ : (t333 : Int) ≤ ((l0.take ((ji4) : Int).toNat).length : Int) := of_decide_eq_true (by first | (with_reducible assumption) | assumption); omega)] <;> rfl) | (simp only [hji4]; rfl) | rfl | (simp only [List.length_drop, List.length_take]; rfl)) ?_; (with_reducible refine (columbariumlaw16_Text.calls k _ _ ((l0.take ((ji4) : Int).toNat).take (t333 : Int).toNat) t350 _ ?side1 ?side2 A24.out).mono ?_); (case side1 => repeat (first | exact (Kd.C_below HR349.out HB.out) | (with_reducible refine Kd.C_alloc ?_ _) | (with_reducible refine Kd.C_drewN ?_ _) | (with_reducible refine Kd.C_drew ?_))); (case side2 => exact HC349.out); rintro e w49 ⟨rfl, hb⟩; refine ⟨_, rfl, ?_⟩; have n0_ := Aside0.mk (Kd.V_below (by (with_reducible repeat (first | apply Kd.V_alloc | apply Kd.V_drewN | apply Kd.V_drew)); exact HO337.out) hb); have n1_ := Aside0.mk (Kd.V_below (by (with_reducible repeat (first | apply Kd.V_alloc | apply Kd.V_drewN | apply Kd.V_drew)); exact HO347.out) hb); have n2_ := Aside0.mk (below_step (by repeat (first | (with_reducible first | exact HB.out | apply below_alloc | apply pw_below_drewN | apply below_drew1) | exact HB.out)) hb); clear HO337; clear HO347; clear HB; have HO337 := n0_; have HO347 := n1_; have HB := n2_; clear n0_ n1_ n2_; (try clear hb); (try clear hb2); (try clear hk); (try clear hi)) | ((with_reducible refine gate_callee (f := 13) rfl ?_); refine goesL_ (some 57) rfl rfl Try.func13 (by kernel_rfl) rfl #[.string t350] rfl (by (try simp only [List.map_toArray, List.map_cons, List.map_nil]); first | done | rfl | (simp only [List.length_drop, List.length_take]; rfl)) ?_; (with_reducible refine (words_Set.calls t350 t351 t354 _ A25.out).mono ?_); rintro e w50 ⟨v352, rfl, ho0, hb⟩; refine ⟨_, rfl, ?_⟩; have n0_ := Aside0.mk (Kd.V_below (by (with_reducible repeat (first | apply Kd.V_alloc | apply Kd.V_drewN | apply Kd.V_drew)); exact HO337.out) hb); have n1_ := Aside0.mk (Kd.V_below (by (with_reducible repeat (first | apply Kd.V_alloc | apply Kd.V_drewN | apply Kd.V_drew)); exact HO347.out) hb); have n2_ := Aside0.mk (Kd.V_lower (Kd.V_mono (ok' := fun k_ => True) ho0 (fun k_ hk_ => trivial)) (below_size (by repeat (first | (with_reducible first | exact HB.out | apply below_alloc | apply pw_below_drewN | apply below_drew1) | exact HB.out)))); have n3_ := Aside0.mk (below_step (by repeat (first | (with_reducible first | exact HB.out | apply below_alloc | apply pw_below_drewN | apply below_drew1) | exact HB.out)) hb); clear HO337; clear HO347; clear HB; have HO337 := n0_; have HO347 := n1_; have HO353 := n2_; have HB := n3_; clear n0_ n1_ n2_ n3_; (try clear hb); (try clear hb2); (try clear hk); (try clear hi); (try clear ho0); obtain ⟨i051, hi051, _, hsz51, _⟩ := info_parts info3; have HR355 := HR339; have HC355 := HC339) | ((with_reducible refine gate_callee (f := 9) rfl ?_); refine goesL_ (some 64) rfl rfl Try.func9 (by kernel_rfl) rfl #[.slice A41 ((l0.take ((ji4) : Int).toNat).drop (t333 : Int).toNat).length (c0 - t333.toNat)] rfl (by (try simp only [List.map_toArray, List.map_cons, List.map_nil]); first | done | (rw [show ((l0.take ((ji4) : Int).toNat).drop (t333 : Int).toNat).length = ((l0.take ((ji4) : Int).toNat).length - t333.toNat) from List.length_drop] <;> rfl) | (rw [List.length_drop, show (l0.take ((ji4) : Int).toNat).length = ((ji4) : Int).toNat from (by rw [List.length_take]; have h_ : ((ji4) : Int) ≤ (l0.length : Int) := of_decide_eq_true (by first | (with_reducible assumption) | assumption); omega)] <;> rfl) | (simp only [hji4]; rfl) | rfl | (simp only [List.length_drop, List.length_take]; rfl)) ?_; (with_reducible refine (columbariumlaw16_Text.calls k _ _ ((l0.take ((ji4) : Int).toNat).drop (t333 : Int).toNat) t356 _ ?side1 ?side2 A28.out).mono ?_); (case side1 => repeat (first | exact (Kd.C_below HR355.out HB.out) | (with_reducible refine Kd.C_alloc ?_ _) | (with_reducible refine Kd.C_drewN ?_ _) | (with_reducible refine Kd.C_drew ?_))); (case side2 => exact HC355.out); rintro e w52 ⟨rfl, hb⟩; refine ⟨_, rfl, ?_⟩; have n0_ := Aside0.mk (Kd.V_below (by (with_reducible repeat (first | apply Kd.V_alloc | apply Kd.V_drewN | apply Kd.V_drew)); exact HO337.out) hb); have n1_ := Aside0.mk (Kd.V_below (by (with_reducible repeat (first | apply Kd.V_alloc | apply Kd.V_drewN | apply Kd.V_drew)); exact HO347.out) hb); have n2_ := Aside0.mk (Kd.V_below (by (with_reducible repeat (first | apply Kd.V_alloc | apply Kd.V_drewN | apply Kd.V_drew)); exact HO353.out) hb); have n3_ := Aside0.mk (below_step (by repeat (first | (with_reducible first | exact HB.out | apply below_alloc | apply pw_below_drewN | apply below_drew1) | exact HB.out)) hb); clear HO337; clear HO347; clear HO353; clear HB; have HO337 := n0_; have HO347 := n1_; have HO353 := n2_; have HB := n3_; clear n0_ n1_ n2_ n3_; (try clear hb); (try clear hb2); (try clear hk); (try clear hi)) | ((with_reducible refine gate_callee (f := 13) rfl ?_); refine goesL_ (some 65) rfl rfl Try.func13 (by kernel_rfl) rfl #[.string t356] rfl (by (try simp only [List.map_toArray, List.map_cons, List.map_nil]); first | done | rfl | (simp only [List.length_drop, List.length_take]; rfl)) ?_; (with_reducible refine (words_Set.calls t356 t357 t360 _ A29.out).mono ?_); rintro e w53 ⟨v358, rfl, ho0, hb⟩; refine ⟨_, rfl, ?_⟩; have n0_ := Aside0.mk (Kd.V_below (by (with_reducible repeat (first | apply Kd.V_alloc | apply Kd.V_drewN | apply Kd.V_drew)); exact HO337.out) hb); have n1_ := Aside0.mk (Kd.V_below (by (with_reducible repeat (first | apply Kd.V_alloc | apply Kd.V_drewN | apply Kd.V_drew)); exact HO347.out) hb); have n2_ := Aside0.mk (Kd.V_below (by (with_reducible repeat (first | apply Kd.V_alloc | apply Kd.V_drewN | apply Kd.V_drew)); exact HO353.out) hb); have n3_ := Aside0.mk (Kd.V_lower (Kd.V_mono (ok' := fun k_ => True) ho0 (fun k_ hk_ => trivial)) (below_size (by repeat (first | (with_reducible first | exact HB.out | apply below_alloc | apply pw_below_drewN | apply below_drew1) | exact HB.out)))); have n4_ := Aside0.mk (below_step (by repeat (first | (with_reducible first | exact HB.out | apply below_alloc | apply pw_below_drewN | apply below_drew1) | exact HB.out)) hb); clear HO337; clear HO347; clear HO353; clear HB; have HO337 := n0_; have HO347 := n1_; have HO353 := n2_; have HO359 := n3_; have HB := n4_; clear n0_ n1_ n2_ n3_ n4_; (try clear hb); (try clear hb2); (try clear hk); (try clear hi); (try clear ho0); obtain ⟨Ao54, co54, eo54⟩ := Kd.V_slice HO337.out; subst eo54; obtain ⟨Ao55, co55, eo55⟩ := Kd.V_slice HO347.out; subst eo55) | (go_at_call 15; (with_reducible refine (columbariumref10_Texts.calls k _ _ t335 _ _ t345 true _ ?side1 ?side2 ?side3 ?side4 A34.out).mono ?_); (case side1 => repeat (first | exact (Kd.V_reads' HO337.out).2.2 | (with_reducible refine Kd.C_alloc ?_ _) | (with_reducible refine Kd.C_drewN ?_ _) | (with_reducible refine Kd.C_drew ?_))); (case side2 => exact (Kd.V_reads' HO337.out).2.1); (case side3 => repeat (first | exact (Kd.V_reads' HO347.out).2.2 | (with_reducible refine Kd.C_alloc ?_ _) | (with_reducible refine Kd.C_drewN ?_ _) | (with_reducible refine Kd.C_drew ?_))); (case side4 => exact (Kd.V_reads' HO347.out).2.1); rintro e w' ⟨rfl, ⟨nd, rfl⟩⟩))
                        go_loopg [16] k (fun kq v16 w' => ∃ (x16_1 : Int), v16 = .int .i64 x16_1 ∧ Aside0 (columbariumlaw16_WordsSets.l0 kq t331 t335 t351 t357 x16_1 = some r) ∧ Aside0 (kq ≤ k) ∧ Aside0 (Kd.V Kd.string 9 w' w.heap.size (fun _ => True) (.slice Ao54 t335.length co54) t335) ∧ Aside0 (Kd.V Kd.string 9 w' w.heap.size (fun _ => True) v352 t351) ∧ Aside0 (Kd.V Kd.string 9 w' w.heap.size (fun _ => True) v358 t357) ∧ Aside0 (Below w.heap.size w w'))
                        case atStart => exact ⟨(0), (by first | rfl | (simp; done) | (simp [*]; done)), H', ⟨Nat.le_refl _⟩, ⟨by (with_reducible repeat (first | apply Kd.V_alloc | apply Kd.V_drewN | apply Kd.V_drew)); exact HO337.out⟩, ⟨by (with_reducible repeat (first | apply Kd.V_alloc | apply Kd.V_drewN | apply Kd.V_drew)); exact HO353.out⟩, ⟨by (with_reducible repeat (first | apply Kd.V_alloc | apply Kd.V_drewN | apply Kd.V_drew)); exact HO359.out⟩, ⟨by repeat (first | (with_reducible first | exact HB.out | apply below_alloc | apply pw_below_drewN | apply below_drew1) | exact HB.out)⟩⟩
                        case round =>
                          clear H'
                          try clear c1
                          try clear c2
                          try clear p2
                          try clear c3
                          try clear c5
                          try clear c5b0
                          try clear c5b1
                          try clear c6
                          try clear c6b0
                          try clear c6b1
                          try clear c7
                          try clear c8
                          try clear c9
                          try clear c10
                          try clear c10b0
                          try clear c10b1
                          try clear c11
                          try clear c11b0
                          try clear c11b1
                          try clear c13
                          try clear c13b0
                          try clear c14
                          try clear c14b0
                          try clear c16
                          try clear c16b0
                          try clear c16b1
                          try clear c16b2
                          try clear c17
                          try clear c17b0
                          try clear c18
                          try clear c18b0
                          try clear c20
                          try clear c20b0
                          try clear c20b1
                          try clear c20b2
                          try clear c22
                          try clear c22b0
                          try clear c23
                          try clear c23b0
                          try clear c26
                          try clear c26b0
                          try clear c27
                          try clear c27b0
                          try clear c30
                          try clear c30b0
                          try clear c30b1
                          try clear c31
                          try clear c31b0
                          try clear c31b1
                          try clear c32
                          try clear c32b0
                          try clear c32b1
                          try clear c33
                          try clear c33b0
                          try clear c33b1
                          try clear c35
                          obtain ⟨x16_1, rfl, HA, HK1, HO_8, HO_12, HO_14, HB⟩ := hrel
                          cases gk with
                          | zero => exact absurd HA.out (by simp [columbariumlaw16_WordsSets.l0])
                          | succ k1 =>
                            have H := HA.out
                            clear HA
                            simp only [columbariumlaw16_WordsSets.l0] at H
                            by_cases c56 : x16_1 < (t335.length : Int)
                            · rw [if_pos c56] at H
                              have c56b0 : decide (x16_1 < (t335.length : Int)) = true := decide_eq_true c56
                              clear c56
                              by_cases c57 : 0 ≤ x16_1
                              · rw [if_pos c57] at H
                                have c57b0 : decide (0 ≤ x16_1) = true := decide_eq_true c57
                                clear c57
                                replace H := Option.bind_eq_some_iff.mp H
                                obtain ⟨t363, A580, H⟩ := H
                                replace H : (if t363 = true then (columbariumlaw16_WordsSets.l0 k1 t331 t335 t351 t357 (wrap64 (x16_1 + 1))) else ((columbariumref16_In.f k1 t357 (rdOf ByteArray.empty t335 x16_1)).bind fun t365 => (if t365 = true then (columbariumlaw16_WordsSets.l0 k1 t331 t335 t351 t357 (wrap64 (x16_1 + 1))) else (none)))) = some r := H
                                have A58 := Aside0.mk A580
                                clear A580
                                by_cases c59 : t363 = true
                                · subst c59
                                  have H1 : (columbariumlaw16_WordsSets.l0 k1 t331 t335 t351 t357 (wrap64 (x16_1 + 1))) = some r := by rw [if_pos rfl] at H; exact H
                                  clear H
                                  have H := H1
                                  clear H1
                                  have H' := Aside0.mk H
                                  clear H
                                  have p362 : 0 ≤ (x16_1 : Int) := of_decide_eq_true (by first | (with_reducible assumption) | assumption)
                                  have q362 : x16_1 < (t335.length : Int) := of_decide_eq_true (by first | (with_reducible assumption) | assumption)
                                  obtain ⟨ad362, e362, hx362_0⟩ := Kd.at_string (Kd.V_reads' HO_8.out).2.2 x16_1 p362 q362
                                  cases e362
                                  replace p362 := eq_true p362
                                  replace q362 := eq_true q362
                                  obtain ⟨Ao60, co60, eo60⟩ := Kd.V_slice HO_12.out
                                  subst eo60
                                  go_wp2_with (first | ((with_reducible refine gate_callee (f := 21) rfl ?_); refine goesL_ (some 99) rfl rfl Try.func21 (by kernel_rfl) rfl #[.slice Ao60 t351.length co60, .string (rdOf ByteArray.empty t335 x16_1)] rfl (by (try simp only [List.map_toArray, List.map_cons, List.map_nil]); first | done | rfl | (simp only [List.length_drop, List.length_take]; rfl)) ?_; (with_reducible refine (columbariumref16_In.calls k1 _ _ t351 (rdOf ByteArray.empty t335 x16_1) true _ ?side1 ?side2 A58.out).mono ?_); (case side1 => repeat (first | exact (Kd.V_reads' HO_12.out).2.2 | (with_reducible refine Kd.C_alloc ?_ _) | (with_reducible refine Kd.C_drewN ?_ _) | (with_reducible refine Kd.C_drew ?_))); (case side2 => exact (Kd.V_reads' HO_12.out).2.1); rintro e w' ⟨rfl, ⟨nd, rfl⟩⟩; refine ⟨_, rfl, ?_⟩))
                                  go_roundg k1
                                  case measure => have := HK1.out; omega
                                  case rel => exact ⟨(wrap64 (x16_1 + 1)), (by first | rfl | (simp; done) | (simp [*]; done)), H', ⟨by have := HK1.out; omega⟩, ⟨by (with_reducible repeat (first | apply Kd.V_alloc | apply Kd.V_drewN | apply Kd.V_drew)); exact HO_8.out⟩, ⟨by (with_reducible repeat (first | apply Kd.V_alloc | apply Kd.V_drewN | apply Kd.V_drew)); exact HO_12.out⟩, ⟨by (with_reducible repeat (first | apply Kd.V_alloc | apply Kd.V_drewN | apply Kd.V_drew)); exact HO_14.out⟩, ⟨by repeat (first | (with_reducible first | exact HB.out | apply below_alloc | apply pw_below_drewN | apply below_drew1) | exact HB.out)⟩⟩
                                · replace c59 := Bool.eq_false_iff.mpr c59
                                  subst c59
                                  have H1 : ((columbariumref16_In.f k1 t357 (rdOf ByteArray.empty t335 x16_1)).bind fun t365 => (if t365 = true then (columbariumlaw16_WordsSets.l0 k1 t331 t335 t351 t357 (wrap64 (x16_1 + 1))) else (none))) = some r := by rw [if_neg (show ¬ (false = true) by decide)] at H; exact H
                                  clear H
                                  have H := H1
                                  clear H1
                                  replace H := Option.bind_eq_some_iff.mp H
                                  obtain ⟨t365, A610, H⟩ := H
                                  replace H : (if t365 = true then (columbariumlaw16_WordsSets.l0 k1 t331 t335 t351 t357 (wrap64 (x16_1 + 1))) else (none)) = some r := H
                                  have A61 := Aside0.mk A610
                                  clear A610
                                  by_cases c62 : t365 = true
                                  · subst c62
                                    have H1 : (columbariumlaw16_WordsSets.l0 k1 t331 t335 t351 t357 (wrap64 (x16_1 + 1))) = some r := by rw [if_pos rfl] at H; exact H
                                    clear H
                                    have H := H1
                                    clear H1
                                    have H' := Aside0.mk H
                                    clear H
                                    have p362 : 0 ≤ (x16_1 : Int) := of_decide_eq_true (by first | (with_reducible assumption) | assumption)
                                    have q362 : x16_1 < (t335.length : Int) := of_decide_eq_true (by first | (with_reducible assumption) | assumption)
                                    obtain ⟨ad362, e362, hx362_0⟩ := Kd.at_string (Kd.V_reads' HO_8.out).2.2 x16_1 p362 q362
                                    cases e362
                                    replace p362 := eq_true p362
                                    replace q362 := eq_true q362
                                    obtain ⟨Ao63, co63, eo63⟩ := Kd.V_slice HO_12.out
                                    subst eo63
                                    go_wp2_with (first | ((with_reducible refine gate_callee (f := 21) rfl ?_); refine goesL_ (some 99) rfl rfl Try.func21 (by kernel_rfl) rfl #[.slice Ao63 t351.length co63, .string (rdOf ByteArray.empty t335 x16_1)] rfl (by (try simp only [List.map_toArray, List.map_cons, List.map_nil]); first | done | rfl | (simp only [List.length_drop, List.length_take]; rfl)) ?_; (with_reducible refine (columbariumref16_In.calls k1 _ _ t351 (rdOf ByteArray.empty t335 x16_1) false _ ?side1 ?side2 A58.out).mono ?_); (case side1 => repeat (first | exact (Kd.V_reads' HO_12.out).2.2 | (with_reducible refine Kd.C_alloc ?_ _) | (with_reducible refine Kd.C_drewN ?_ _) | (with_reducible refine Kd.C_drew ?_))); (case side2 => exact (Kd.V_reads' HO_12.out).2.1); rintro e w' ⟨rfl, ⟨nd, rfl⟩⟩; refine ⟨_, rfl, ?_⟩; have p364 : 0 ≤ (x16_1 : Int) := of_decide_eq_true (by first | (with_reducible assumption) | assumption); have q364 : x16_1 < (t335.length : Int) := of_decide_eq_true (by first | (with_reducible assumption) | assumption); obtain ⟨ad364, e364, hx364_0⟩ := Kd.at_string (Kd.V_reads' HO_8.out).2.2 x16_1 p364 q364; obtain rfl : ad362 = ad364 := (by injection e364); replace p364 := eq_true p364; replace q364 := eq_true q364; obtain ⟨Ao64, co64, eo64⟩ := Kd.V_slice HO_14.out; subst eo64) | (go_at_call 21; (with_reducible refine (columbariumref16_In.calls k1 _ _ t357 (rdOf ByteArray.empty t335 x16_1) true _ ?side1 ?side2 A61.out).mono ?_); (case side1 => repeat (first | exact (Kd.V_reads' HO_14.out).2.2 | (with_reducible refine Kd.C_alloc ?_ _) | (with_reducible refine Kd.C_drewN ?_ _) | (with_reducible refine Kd.C_drew ?_))); (case side2 => exact (Kd.V_reads' HO_14.out).2.1); rintro e w' ⟨rfl, ⟨nd, rfl⟩⟩))
                                    go_roundg k1
                                    case measure => have := HK1.out; omega
                                    case rel => exact ⟨(wrap64 (x16_1 + 1)), (by first | rfl | (simp; done) | (simp [*]; done)), H', ⟨by have := HK1.out; omega⟩, ⟨by (with_reducible repeat (first | apply Kd.V_alloc | apply Kd.V_drewN | apply Kd.V_drew)); exact HO_8.out⟩, ⟨by (with_reducible repeat (first | apply Kd.V_alloc | apply Kd.V_drewN | apply Kd.V_drew)); exact HO_12.out⟩, ⟨by (with_reducible repeat (first | apply Kd.V_alloc | apply Kd.V_drewN | apply Kd.V_drew)); exact HO_14.out⟩, ⟨by repeat (first | (with_reducible first | exact HB.out | apply below_alloc | apply pw_below_drewN | apply below_drew1) | exact HB.out)⟩⟩
                                  · replace c62 := Bool.eq_false_iff.mpr c62
                                    subst c62
                                    have H1 : (none) = some r := by rw [if_neg (show ¬ (false = true) by decide)] at H; exact H
                                    clear H
                                    have H := H1
                                    clear H1
                                    exact absurd H (by simp)
                              · rw [if_neg c57] at H
                                exact absurd H (by simp)
                            · rw [if_neg c56] at H
                              have c56b0 : decide (x16_1 < (t335.length : Int)) = false := decide_eq_false c56
                              clear c56
                              by_cases c65 : t331 = true
                              · subst c65
                                have H1 : (if (t335.length : Int) ≤ (wrap64 ((t351.length : Int) + (t357.length : Int))) then (some (decide ((t335.length : Int) ≥ (mx (t351.length : Int) (t357.length : Int))))) else (none)) = some r := by rw [if_pos rfl] at H; exact H
                                clear H
                                have H := H1
                                clear H1
                                by_cases c66 : (t335.length : Int) ≤ (wrap64 ((t351.length : Int) + (t357.length : Int)))
                                · rw [if_pos c66] at H
                                  have c66b0 : decide ((t335.length : Int) ≤ (wrap64 ((t351.length : Int) + (t357.length : Int)))) = true := decide_eq_true c66
                                  clear c66
                                  obtain ⟨ji67, hji67⟩ : ∃ j_ : Int, (mx (t351.length : Int) (t357.length : Int)) = j_ := ⟨_, rfl⟩
                                  replace H : (some (decide ((t335.length : Int) ≥ (ji67)))) = some r := by first | (rw [hji67] at H; exact H) | (simp only [hji67] at H ⊢; exact H)
                                  have hji67_ : (if (t351.length : Int) < (t357.length : Int) then (t357.length : Int) else (t351.length : Int)) = ji67 := hji67
                                  obtain rfl := Option.some.inj H
                                  obtain ⟨Ao68, co68, eo68⟩ := Kd.V_slice HO_12.out
                                  subst eo68
                                  obtain ⟨Ao69, co69, eo69⟩ := Kd.V_slice HO_14.out
                                  subst eo69
                                  go_wp2
                                  all_goals first | (go_ret; exact ⟨by first | rfl | (simp [errW_none, errW_some] <;> rfl) | (simp only [← hji4, ← hji67]; first | rfl | (simp [errW_none, errW_some] <;> rfl)) | (simp [*, errW_none, errW_some] <;> rfl) | (refine congrArg (fun b_ => Ending.returned (Value.bool b_)) (decide_eq_decide.mpr ?_); simp only [← hji4, ← hji67, mx, mn]; (repeat' split) <;> omega), by repeat (first | (with_reducible first | exact HB.out | apply below_alloc | apply pw_below_drewN | apply below_drew1) | exact HB.out)⟩) | (exfalso; rename_i h_; first | (have h2_ := Int.not_le.mpr h_; simp_all; done) | (simp_all; done) | (simp_all; omega))
                                · rw [if_neg c66] at H
                                  exact absurd H (by simp)
                              · replace c65 := Bool.eq_false_iff.mpr c65
                                subst c65
                                have H1 : (none) = some r := by rw [if_neg (show ¬ (false = true) by decide)] at H; exact H
                                clear H
                                have H := H1
                                clear H1
                                exact absurd H (by simp)
                      · replace c35 := Bool.eq_false_iff.mpr c35
                        subst c35
                        have H1 : (none) = some r := by rw [if_neg (show ¬ (false = true) by decide)] at H; exact H
                        clear H
                        have H := H1
                        clear H1
                        exact absurd H (by simp)
                    · rw [if_neg c33] at H
                      exact absurd H (by simp)
                  · rw [if_neg c32] at H
                    exact absurd H (by simp)
                · rw [if_neg c31] at H
                  exact absurd H (by simp)
              · rw [if_neg c30] at H
                exact absurd H (by simp)
            · rw [if_neg c20] at H
              exact absurd H (by simp)
          · rw [if_neg c16] at H
            exact absurd H (by simp)
        · rw [if_neg c11] at H
          exact absurd H (by simp)
      · rw [if_neg c10] at H
        exact absurd H (by simp)
    · rw [if_neg c6] at H
      exact absurd H (by simp)
  · rw [if_neg c5] at H
    exact absurd H (by simp)

end Go.Proofs.Ytpmjnggkhjjiaaa.A
