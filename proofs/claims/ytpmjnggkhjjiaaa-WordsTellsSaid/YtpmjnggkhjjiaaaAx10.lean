-- Written by program (this session's myprint.py over the kit's print.py). Not trusted: Lean checks it.
import Derived.Test.YtpmjnggkhjjiaaaAx0
import Derived.Test.YtpmjnggkhjjiaaaAx1
import Derived.Test.YtpmjnggkhjjiaaaAx5
import Derived.Test.YtpmjnggkhjjiaaaAx6
import Derived.Test.YtpmjnggkhjjiaaaAx7
import Derived.Test.YtpmjnggkhjjiaaaAx9
import Derived.Test.YtpmjnggkhjjiaaaHandSet
import Derived.Test.YtpmjnggkhjjiaaaHandSplit
namespace Go.Proofs.Ytpmjnggkhjjiaaa.A
open Go.RowKit Go.Proofs.YtpmjnggkhjjiaaaW.PrintWords Go.Proofs.YtpmjnggkhjjiaaaW.PrintLast Go.Proofs.YtpmjnggkhjjiaaaW.PrintMore
attribute [local go_sem] str_gtr str_leq max2_int min2_int max_two min_two max_three min_three max_four min_four   -- for this text's walks alone
set_option linter.unusedVariables false
set_option linter.unusedSimpArgs false

/-! ### columbariumlaw16_WordsTells: function 3 -/
mutual
def columbariumlaw16_WordsTells.l0 : Nat → Int → Int → Bool → List ByteArray → Int → Int → Option (Bool)
  | 0, _, _, _, _, _, _ => none
  | k + 1, x1, x3, x9, x46, x47, x48 => if x48 < x47 then (if 0 ≤ x48 then (if x48 < (x46.length : Int) then ((words_Split.f (rdOf ByteArray.empty x46 x48)).bind fun bt208 => ((columbariumref16_Split.f k (rdOf ByteArray.empty x46 x48)).bind fun bt212 => ((words_Set.f (rdOf ByteArray.empty x46 x48)).bind fun bt216 => ((columbariumref16_Set.f k (rdOf ByteArray.empty x46 x48)).bind fun bt220 => ((columbariumref10_Texts.f k bt208.1 bt212.1).bind fun t224 => (if t224 = true then (if bt208.2 = bt212.2 then ((columbariumref10_Texts.f k bt216.1 bt220.1).bind fun t225 => (if t225 = true then (if bt216.2 = bt220.2 then ((words_May.f k (rdOf ByteArray.empty x46 x48)).bind fun t226 => ((columbariumref16_May.f k (rdOf ByteArray.empty x46 x48)).bind fun t227 => (if (t226 != t227) = true then (none) else (columbariumlaw16_WordsTells.l1 k x1 x3 x9 bt208.1 0 x46 x47 x48)))) else (none)) else (none))) else (none)) else (none))))))) else (none)) else (none)) else ((columbariumlaw16_pick.f x3 5).bind fun t232 => (if 0 ≤ (wrap64 (1998 + t232)) then (if (wrap64 (1998 + t232) : Int).toNat ≤ 281474976710656 then ((words_Split.f (strOfNums (List.replicate (wrap64 (1998 + t232) : Int).toNat 0))).bind fun bt236 => ((words_Set.f (strOfNums (List.replicate (wrap64 (1998 + t232) : Int).toNat 0))).bind fun bt243 => (if x9 = true then ((words_Sign.f k x1).bind fun t247 => ((columbariumref16_Sign.f k x1).bind fun t248 => (if t247 = t248 then (if ((bt236.2 == 0) == (decide ((wrap64 (1998 + t232)) ≤ 2000))) = true then (if bt236.2 = bt243.2 then (if bt236.2 = 0 then (some true) else (some (bt236.2 == 2))) else (none)) else (none)) else (none)))) else (none)))) else (none)) else (none)))
def columbariumlaw16_WordsTells.l1 : Nat → Int → Int → Bool → List ByteArray → Int → List ByteArray → Int → Int → Option (Bool)
  | 0, _, _, _, _, _, _, _, _ => none
  | k + 1, x1, x3, x9, x13, x21, x46, x47, x48 => if x21 < (x13.length : Int) then (if x21 < 9 then (if 0 ≤ x21 then ((words_May.f k (rdOf ByteArray.empty x13 x21)).bind fun t229 => ((columbariumref16_May.f k (rdOf ByteArray.empty x13 x21)).bind fun t231 => (if (t229 != t231) = true then (none) else (columbariumlaw16_WordsTells.l1 k x1 x3 x9 x13 (wrap64 (x21 + 1)) x46 x47 x48)))) else (none)) else (columbariumlaw16_WordsTells.l0 k x1 x3 x9 x46 x47 (wrap64 (x48 + 1)))) else (columbariumlaw16_WordsTells.l0 k x1 x3 x9 x46 x47 (wrap64 (x48 + 1)))
end
def columbariumlaw16_WordsTells.f (k : Nat) (a0 : ByteArray) (a1 : Int) (l2 : List Int) (a3 : Int) : Option (Bool) := (columbariumlaw16_awake.f k).bind fun t199 => (if 0 ≤ (mn (a0.size : Int) 500) then (if (mn (a0.size : Int) 500) ≤ (a0.size : Int) then ((columbariumlaw16_Text.f k l2).bind fun t200 => ((columbariumlaw16_Text.f k l2).bind fun t201 => (if t201.size + ((mn (a0.size : Int) 500) : Int).toNat ≤ 9223372036854775807 then ((columbariumlaw16_great.f k (a0.extract 0 ((mn (a0.size : Int) 500) : Int).toNat)).bind fun t202 => (if t202.size + 1 ≤ 9223372036854775807 then ((columbariumlaw16_Text.f k l2).bind fun t203 => (if (t202.size + 1) + t203.size ≤ 9223372036854775807 then ((some (([a0.extract 0 ((mn (a0.size : Int) 500) : Int).toNat, t200, t201 ++ (a0.extract 0 ((mn (a0.size : Int) 500) : Int).toNat), (t202 ++ (⟨#[32]⟩ : ByteArray)) ++ t203] : List ByteArray) : List ByteArray)).bind fun y204 => (columbariumlaw16_WordsTells.l0 k a1 a3 t199 y204 (y204.length : Int) 0)) else (none))) else (none))) else (none)))) else (none)) else (none))
theorem columbariumlaw16_WordsTells.mono_l : ∀ k, (∀ y0 y1 y2 y3 y4 y5, LeO (columbariumlaw16_WordsTells.l0 k y0 y1 y2 y3 y4 y5) (columbariumlaw16_WordsTells.l0 (k + 1) y0 y1 y2 y3 y4 y5)) ∧ (∀ y0 y1 y2 y3 y4 y5 y6 y7, LeO (columbariumlaw16_WordsTells.l1 k y0 y1 y2 y3 y4 y5 y6 y7) (columbariumlaw16_WordsTells.l1 (k + 1) y0 y1 y2 y3 y4 y5 y6 y7))
  | 0 => ⟨fun _ _ _ _ _ _ r h => by simp [columbariumlaw16_WordsTells.l0] at h, fun _ _ _ _ _ _ _ _ r h => by simp [columbariumlaw16_WordsTells.l1] at h⟩
  | k + 1 => by
    obtain ⟨ih0, ih1⟩ := columbariumlaw16_WordsTells.mono_l k
    refine ⟨?_, ?_⟩
    · intro y0 y1 y2 y3 y4 y5
      unfold columbariumlaw16_WordsTells.l0
      repeat' first
      | (with_reducible exact ih0 _ _ _ _ _ _)
      | (with_reducible exact ih1 _ _ _ _ _ _ _ _)
      | (with_reducible exact columbariumlaw16_Text.mono _ _)
      | (with_reducible exact columbariumlaw16_awake.mono _)
      | (with_reducible exact columbariumlaw16_great.mono _ _)
      | (with_reducible exact columbariumref10_Texts.mono _ _ _)
      | (with_reducible exact columbariumref16_May.mono _ _)
      | (with_reducible exact columbariumref16_Set.mono _ _)
      | (with_reducible exact columbariumref16_Sign.mono _ _)
      | (with_reducible exact columbariumref16_Split.mono _ _)
      | (with_reducible exact words_May.mono _ _)
      | (with_reducible exact words_Sign.mono _ _)
      | (with_reducible exact LeO.refl _)
      | (with_reducible exact LeO.none _)
      | (with_reducible refine LeO.ite ?_ ?_)
      | (with_reducible refine LeO.bind ?_ (fun _ => ?_))
      | exact ih0 _ _ _ _ _ _
      | exact ih1 _ _ _ _ _ _ _ _
      | exact columbariumlaw16_Text.mono _ _
      | exact columbariumlaw16_awake.mono _
      | exact columbariumlaw16_great.mono _ _
      | exact columbariumref10_Texts.mono _ _ _
      | exact columbariumref16_May.mono _ _
      | exact columbariumref16_Set.mono _ _
      | exact columbariumref16_Sign.mono _ _
      | exact columbariumref16_Split.mono _ _
      | exact words_May.mono _ _
      | exact words_Sign.mono _ _
      | exact LeO.none _
      | refine LeO.ite ?_ ?_
      | refine LeO.bind ?_ (fun _ => ?_)
    · intro y0 y1 y2 y3 y4 y5 y6 y7
      unfold columbariumlaw16_WordsTells.l1
      repeat' first
      | (with_reducible exact ih0 _ _ _ _ _ _)
      | (with_reducible exact ih1 _ _ _ _ _ _ _ _)
      | (with_reducible exact columbariumlaw16_Text.mono _ _)
      | (with_reducible exact columbariumlaw16_awake.mono _)
      | (with_reducible exact columbariumlaw16_great.mono _ _)
      | (with_reducible exact columbariumref10_Texts.mono _ _ _)
      | (with_reducible exact columbariumref16_May.mono _ _)
      | (with_reducible exact columbariumref16_Set.mono _ _)
      | (with_reducible exact columbariumref16_Sign.mono _ _)
      | (with_reducible exact columbariumref16_Split.mono _ _)
      | (with_reducible exact words_May.mono _ _)
      | (with_reducible exact words_Sign.mono _ _)
      | (with_reducible exact LeO.refl _)
      | (with_reducible exact LeO.none _)
      | (with_reducible refine LeO.ite ?_ ?_)
      | (with_reducible refine LeO.bind ?_ (fun _ => ?_))
      | exact ih0 _ _ _ _ _ _
      | exact ih1 _ _ _ _ _ _ _ _
      | exact columbariumlaw16_Text.mono _ _
      | exact columbariumlaw16_awake.mono _
      | exact columbariumlaw16_great.mono _ _
      | exact columbariumref10_Texts.mono _ _ _
      | exact columbariumref16_May.mono _ _
      | exact columbariumref16_Set.mono _ _
      | exact columbariumref16_Sign.mono _ _
      | exact columbariumref16_Split.mono _ _
      | exact words_May.mono _ _
      | exact words_Sign.mono _ _
      | exact LeO.none _
      | refine LeO.ite ?_ ?_
      | refine LeO.bind ?_ (fun _ => ?_)
theorem columbariumlaw16_WordsTells.mono : ∀ a0 a1 a2 a3 k, LeO (columbariumlaw16_WordsTells.f k a0 a1 a2 a3) (columbariumlaw16_WordsTells.f (k + 1) a0 a1 a2 a3) := by
  intro a0 a1 a2 a3 k
  obtain ⟨ih0, ih1⟩ := columbariumlaw16_WordsTells.mono_l k
  unfold columbariumlaw16_WordsTells.f
  repeat' first
      | (with_reducible exact ih0 _ _ _ _ _ _)
      | (with_reducible exact ih1 _ _ _ _ _ _ _ _)
      | (with_reducible exact columbariumlaw16_Text.mono _ _)
      | (with_reducible exact columbariumlaw16_awake.mono _)
      | (with_reducible exact columbariumlaw16_great.mono _ _)
      | (with_reducible exact columbariumref10_Texts.mono _ _ _)
      | (with_reducible exact columbariumref16_May.mono _ _)
      | (with_reducible exact columbariumref16_Set.mono _ _)
      | (with_reducible exact columbariumref16_Sign.mono _ _)
      | (with_reducible exact columbariumref16_Split.mono _ _)
      | (with_reducible exact words_May.mono _ _)
      | (with_reducible exact words_Sign.mono _ _)
      | (with_reducible exact LeO.refl _)
      | (with_reducible exact LeO.none _)
      | (with_reducible refine LeO.ite ?_ ?_)
      | (with_reducible refine LeO.bind ?_ (fun _ => ?_))
      | exact ih0 _ _ _ _ _ _
      | exact ih1 _ _ _ _ _ _ _ _
      | exact columbariumlaw16_Text.mono _ _
      | exact columbariumlaw16_awake.mono _
      | exact columbariumlaw16_great.mono _ _
      | exact columbariumref10_Texts.mono _ _ _
      | exact columbariumref16_May.mono _ _
      | exact columbariumref16_Set.mono _ _
      | exact columbariumref16_Sign.mono _ _
      | exact columbariumref16_Split.mono _ _
      | exact words_May.mono _ _
      | exact words_Sign.mono _ _
      | exact LeO.none _
      | refine LeO.ite ?_ ?_
      | refine LeO.bind ?_ (fun _ => ?_)
def columbariumlaw16_WordsTells.T15 : Bool × List (List Nat × List Nat) := (true, [([], []), ([], []), ([0, 1], [0, 1]), ([2], [2]), ([3], [3]), ([], []), ([], []), ([5, 6], [5, 6]), ([7], [7]), ([8, 4], [8]), ([4, 9], [4, 9])])
def columbariumlaw16_WordsTells.B15 : List Nat := [0, 0, 3, 7, 15, 0, 0, 96, 224, 511, 1023]
theorem columbariumlaw16_WordsTells.tab15 : rtab .any (opsOf Try.f3 15) = columbariumlaw16_WordsTells.T15 := by kernel_rfl
theorem columbariumlaw16_WordsTells.bits15 : waitsOk columbariumlaw16_WordsTells.T15.2 columbariumlaw16_WordsTells.B15 = true := by kernel_rfl
set_option maxHeartbeats 8000000 in
set_option maxRecDepth 100000 in
theorem columbariumlaw16_WordsTells.calls (k : Nat) (a0 : ByteArray) (a1 : Int) (A2 : Option Addr) (c2 : Nat) (l2 : List Int) (a3 : Int) (r : Bool) (w : World) (hr2 : Kd.C (Kd.int .i64) w A2 l2.length l2) (hc2 : l2.length ≤ c2) (h : columbariumlaw16_WordsTells.f k a0 a1 l2 a3 = some r) :
    Calls Try.prog 3 #[.string a0, .int .u8 a1, .slice A2 l2.length c2, .int .i64 a3] w fun e w' => e = .returned (.bool r) ∧ Below w.heap.size w w' := by
  have HR2 := Aside0.mk hr2
  have HC2 := Aside0.mk hc2
  clear hr2 hc2
  have HB := Aside0.mk (Below.refl w.heap.size w)
  have H : ((columbariumlaw16_awake.f k).bind fun t199 => (if 0 ≤ (mn (a0.size : Int) 500) then (if (mn (a0.size : Int) 500) ≤ (a0.size : Int) then ((columbariumlaw16_Text.f k l2).bind fun t200 => ((columbariumlaw16_Text.f k l2).bind fun t201 => (if t201.size + ((mn (a0.size : Int) 500) : Int).toNat ≤ 9223372036854775807 then ((columbariumlaw16_great.f k (a0.extract 0 ((mn (a0.size : Int) 500) : Int).toNat)).bind fun t202 => (if t202.size + 1 ≤ 9223372036854775807 then ((columbariumlaw16_Text.f k l2).bind fun t203 => (if (t202.size + 1) + t203.size ≤ 9223372036854775807 then ((some (([a0.extract 0 ((mn (a0.size : Int) 500) : Int).toNat, t200, t201 ++ (a0.extract 0 ((mn (a0.size : Int) 500) : Int).toNat), (t202 ++ (⟨#[32]⟩ : ByteArray)) ++ t203] : List ByteArray) : List ByteArray)).bind fun y204 => (columbariumlaw16_WordsTells.l0 k a1 a3 t199 y204 (y204.length : Int) 0)) else (none))) else (none))) else (none)))) else (none)) else (none))) = some r := h
  clear h
  replace H := Option.bind_eq_some_iff.mp H
  obtain ⟨t199, A50, H⟩ := H
  replace H : (if 0 ≤ (mn (a0.size : Int) 500) then (if (mn (a0.size : Int) 500) ≤ (a0.size : Int) then ((columbariumlaw16_Text.f k l2).bind fun t200 => ((columbariumlaw16_Text.f k l2).bind fun t201 => (if t201.size + ((mn (a0.size : Int) 500) : Int).toNat ≤ 9223372036854775807 then ((columbariumlaw16_great.f k (a0.extract 0 ((mn (a0.size : Int) 500) : Int).toNat)).bind fun t202 => (if t202.size + 1 ≤ 9223372036854775807 then ((columbariumlaw16_Text.f k l2).bind fun t203 => (if (t202.size + 1) + t203.size ≤ 9223372036854775807 then ((some (([a0.extract 0 ((mn (a0.size : Int) 500) : Int).toNat, t200, t201 ++ (a0.extract 0 ((mn (a0.size : Int) 500) : Int).toNat), (t202 ++ (⟨#[32]⟩ : ByteArray)) ++ t203] : List ByteArray) : List ByteArray)).bind fun y204 => (columbariumlaw16_WordsTells.l0 k a1 a3 t199 y204 (y204.length : Int) 0)) else (none))) else (none))) else (none)))) else (none)) else (none)) = some r := H
  have A5 := Aside0.mk A50
  clear A50
  obtain ⟨ji6, hji6⟩ : ∃ j_ : Int, (mn (a0.size : Int) 500) = j_ := ⟨_, rfl⟩
  replace H : (if 0 ≤ (ji6) then (if (ji6) ≤ (a0.size : Int) then ((columbariumlaw16_Text.f k l2).bind fun t200 => ((columbariumlaw16_Text.f k l2).bind fun t201 => (if t201.size + ((ji6) : Int).toNat ≤ 9223372036854775807 then ((columbariumlaw16_great.f k (a0.extract 0 ((ji6) : Int).toNat)).bind fun t202 => (if t202.size + 1 ≤ 9223372036854775807 then ((columbariumlaw16_Text.f k l2).bind fun t203 => (if (t202.size + 1) + t203.size ≤ 9223372036854775807 then ((some (([a0.extract 0 ((ji6) : Int).toNat, t200, t201 ++ (a0.extract 0 ((ji6) : Int).toNat), (t202 ++ (⟨#[32]⟩ : ByteArray)) ++ t203] : List ByteArray) : List ByteArray)).bind fun y204 => (columbariumlaw16_WordsTells.l0 k a1 a3 t199 y204 (y204.length : Int) 0)) else (none))) else (none))) else (none)))) else (none)) else (none)) = some r := by first | (rw [hji6] at H; exact H) | (simp only [hji6] at H ⊢; exact H)
  (try rw [hji6] at A5)
  (try (have hji6h : ji6 ≤ 500 := by (rw [← hji6]; unfold mn; (repeat' split) <;> omega)))
  (try (have hji6g : ji6 ≤ 64 := by omega))
  (try (have hji6l : 0 ≤ ji6 := by (rw [← hji6]; unfold mn; (repeat' split) <;> omega)))
  (try (have hji6m : 0 ≤ ji6 := by omega))
  have hji6_ : (if 500 < (a0.size : Int) then 500 else (a0.size : Int)) = ji6 := hji6
  by_cases c7 : 0 ≤ (ji6)
  · rw [if_pos c7] at H
    have c7b0 := eq_true c7
    have c7b1 : decide (0 ≤ (ji6)) = true := decide_eq_true c7
    clear c7
    by_cases c8 : (ji6) ≤ (a0.size : Int)
    · rw [if_pos c8] at H
      have c8b0 := eq_true c8
      have c8b1 : decide ((ji6) ≤ (a0.size : Int)) = true := decide_eq_true c8
      clear c8
      replace H := Option.bind_eq_some_iff.mp H
      obtain ⟨t200, A90, H⟩ := H
      replace H : ((columbariumlaw16_Text.f k l2).bind fun t201 => (if t201.size + ((ji6) : Int).toNat ≤ 9223372036854775807 then ((columbariumlaw16_great.f k (a0.extract 0 ((ji6) : Int).toNat)).bind fun t202 => (if t202.size + 1 ≤ 9223372036854775807 then ((columbariumlaw16_Text.f k l2).bind fun t203 => (if (t202.size + 1) + t203.size ≤ 9223372036854775807 then ((some (([a0.extract 0 ((ji6) : Int).toNat, t200, t201 ++ (a0.extract 0 ((ji6) : Int).toNat), (t202 ++ (⟨#[32]⟩ : ByteArray)) ++ t203] : List ByteArray) : List ByteArray)).bind fun y204 => (columbariumlaw16_WordsTells.l0 k a1 a3 t199 y204 (y204.length : Int) 0)) else (none))) else (none))) else (none))) = some r := H
      have A9 := Aside0.mk A90
      clear A90
      replace H := Option.bind_eq_some_iff.mp H
      obtain ⟨t201, A100, H⟩ := H
      replace H : (if t201.size + ((ji6) : Int).toNat ≤ 9223372036854775807 then ((columbariumlaw16_great.f k (a0.extract 0 ((ji6) : Int).toNat)).bind fun t202 => (if t202.size + 1 ≤ 9223372036854775807 then ((columbariumlaw16_Text.f k l2).bind fun t203 => (if (t202.size + 1) + t203.size ≤ 9223372036854775807 then ((some (([a0.extract 0 ((ji6) : Int).toNat, t200, t201 ++ (a0.extract 0 ((ji6) : Int).toNat), (t202 ++ (⟨#[32]⟩ : ByteArray)) ++ t203] : List ByteArray) : List ByteArray)).bind fun y204 => (columbariumlaw16_WordsTells.l0 k a1 a3 t199 y204 (y204.length : Int) 0)) else (none))) else (none))) else (none)) = some r := H
      have A10 := Aside0.mk A100
      clear A100
      by_cases c11 : t201.size + ((ji6) : Int).toNat ≤ 9223372036854775807
      · rw [if_pos c11] at H
        have c11b0 := eq_true c11
        have c11b1 : decide (t201.size + ((ji6) : Int).toNat ≤ 9223372036854775807) = true := decide_eq_true c11
        try have c11b2 : (9223372036854775807 < t201.size + ((ji6) : Int).toNat) = False := eq_false (Nat.not_lt.2 c11)
        replace H := Option.bind_eq_some_iff.mp H
        obtain ⟨t202, A120, H⟩ := H
        replace H : (if t202.size + 1 ≤ 9223372036854775807 then ((columbariumlaw16_Text.f k l2).bind fun t203 => (if (t202.size + 1) + t203.size ≤ 9223372036854775807 then ((some (([a0.extract 0 ((ji6) : Int).toNat, t200, t201 ++ (a0.extract 0 ((ji6) : Int).toNat), (t202 ++ (⟨#[32]⟩ : ByteArray)) ++ t203] : List ByteArray) : List ByteArray)).bind fun y204 => (columbariumlaw16_WordsTells.l0 k a1 a3 t199 y204 (y204.length : Int) 0)) else (none))) else (none)) = some r := H
        have A12 := Aside0.mk A120
        clear A120
        by_cases c13 : t202.size + 1 ≤ 9223372036854775807
        · rw [if_pos c13] at H
          have c13b0 := eq_true c13
          have c13b1 : decide (t202.size + 1 ≤ 9223372036854775807) = true := decide_eq_true c13
          try have c13b2 : (9223372036854775807 < t202.size + 1) = False := eq_false (Nat.not_lt.2 c13)
          replace H := Option.bind_eq_some_iff.mp H
          obtain ⟨t203, A140, H⟩ := H
          replace H : (if (t202.size + 1) + t203.size ≤ 9223372036854775807 then ((some (([a0.extract 0 ((ji6) : Int).toNat, t200, t201 ++ (a0.extract 0 ((ji6) : Int).toNat), (t202 ++ (⟨#[32]⟩ : ByteArray)) ++ t203] : List ByteArray) : List ByteArray)).bind fun y204 => (columbariumlaw16_WordsTells.l0 k a1 a3 t199 y204 (y204.length : Int) 0)) else (none)) = some r := H
          have A14 := Aside0.mk A140
          clear A140
          by_cases c15 : (t202.size + 1) + t203.size ≤ 9223372036854775807
          · rw [if_pos c15] at H
            have c15b0 := eq_true c15
            have c15b1 : decide ((t202.size + 1) + t203.size ≤ 9223372036854775807) = true := decide_eq_true c15
            try have c15b2 : (9223372036854775807 < (t202.size + 1) + t203.size) = False := eq_false (Nat.not_lt.2 c15)
            obtain ⟨y204, hy204⟩ : ∃ y_ : List ByteArray, y_ = (([a0.extract 0 ((ji6) : Int).toNat, t200, t201 ++ (a0.extract 0 ((ji6) : Int).toNat), (t202 ++ (⟨#[32]⟩ : ByteArray)) ++ t203] : List ByteArray)) := ⟨_, rfl⟩
            replace H : (columbariumlaw16_WordsTells.l0 k a1 a3 t199 y204 (y204.length : Int) 0) = some r := by first | (rw [hy204]; with_reducible exact H) | (have H2_ := (Option.bind_some _ _).symm.trans H; rw [hy204]; with_reducible exact H2_) | (have H2_ := (Option.bind_some _ _).symm.trans H; with_reducible exact H2_) | with_reducible exact H | (rw [hy204]; exact H) | exact H
            have Ny204 := Aside0.mk hy204
            clear hy204
            have H' := Aside0.mk H
            clear H
            go_enter Try.func3, Try.ntmps3
            go_wp2_with (first | ((with_reducible refine gate_callee (f := 8) rfl ?_); refine goesL_ (some 27) rfl rfl Try.func8 (by kernel_rfl) rfl #[] rfl (by (try simp only [List.map_toArray, List.map_cons, List.map_nil]); first | done | rfl | (simp only [List.length_drop, List.length_take]; rfl)) ?_; (with_reducible refine (columbariumlaw16_awake.calls k  t199 _ A5.out).mono ?_); rintro e w16 ⟨rfl, hb⟩; refine ⟨_, rfl, ?_⟩; have n0_ := Aside0.mk (below_step (by repeat (first | (with_reducible first | exact HB.out | apply below_alloc | apply pw_below_drewN | apply below_drew1) | exact HB.out)) hb); clear HB; have HB := n0_; clear n0_; (try clear hb); (try clear hb2); (try clear hk); (try clear hi)) | ((with_reducible refine gate_callee (f := 9) rfl ?_); refine goesL_ (some 35) rfl rfl Try.func9 (by kernel_rfl) rfl #[.slice A2 l2.length c2] rfl (by (try simp only [List.map_toArray, List.map_cons, List.map_nil]); first | done | rfl | (simp only [List.length_drop, List.length_take]; rfl)) ?_; (with_reducible refine (columbariumlaw16_Text.calls k _ _ l2 t200 _ ?side1 ?side2 A9.out).mono ?_); (case side1 => repeat (first | exact (Kd.C_below HR2.out HB.out) | (with_reducible refine Kd.C_alloc ?_ _) | (with_reducible refine Kd.C_drewN ?_ _) | (with_reducible refine Kd.C_drew ?_))); (case side2 => exact HC2.out); rintro e w17 ⟨rfl, hb⟩; refine ⟨_, rfl, ?_⟩; have n0_ := Aside0.mk (below_step (by repeat (first | (with_reducible first | exact HB.out | apply below_alloc | apply pw_below_drewN | apply below_drew1) | exact HB.out)) hb); clear HB; have HB := n0_; clear n0_; (try clear hb); (try clear hb2); (try clear hk); (try clear hi)) | ((with_reducible refine gate_callee (f := 9) rfl ?_); refine goesL_ (some 37) rfl rfl Try.func9 (by kernel_rfl) rfl #[.slice A2 l2.length c2] rfl (by (try simp only [List.map_toArray, List.map_cons, List.map_nil]); first | done | rfl | (simp only [List.length_drop, List.length_take]; rfl)) ?_; (with_reducible refine (columbariumlaw16_Text.calls k _ _ l2 t201 _ ?side1 ?side2 A10.out).mono ?_); (case side1 => repeat (first | exact (Kd.C_below HR2.out HB.out) | (with_reducible refine Kd.C_alloc ?_ _) | (with_reducible refine Kd.C_drewN ?_ _) | (with_reducible refine Kd.C_drew ?_))); (case side2 => exact HC2.out); rintro e w18 ⟨rfl, hb⟩; refine ⟨_, rfl, ?_⟩; have n0_ := Aside0.mk (below_step (by repeat (first | (with_reducible first | exact HB.out | apply below_alloc | apply pw_below_drewN | apply below_drew1) | exact HB.out)) hb); clear HB; have HB := n0_; clear n0_; (try clear hb); (try clear hb2); (try clear hk); (try clear hi)) | ((with_reducible refine gate_callee (f := 10) rfl ?_); refine goesL_ (some 41) rfl rfl Try.func10 (by kernel_rfl) rfl #[.string (a0.extract 0 ((ji6) : Int).toNat)] rfl (by (try simp only [List.map_toArray, List.map_cons, List.map_nil]); first | done | (simp only [hji6]; rfl) | rfl | (simp only [List.length_drop, List.length_take]; rfl)) ?_; (with_reducible refine (columbariumlaw16_great.calls k (a0.extract 0 ((ji6) : Int).toNat) t202 _ A12.out).mono ?_); rintro e w19 ⟨rfl, hb⟩; refine ⟨_, rfl, ?_⟩; have n0_ := Aside0.mk (below_step (by repeat (first | (with_reducible first | exact HB.out | apply below_alloc | apply pw_below_drewN | apply below_drew1) | exact HB.out)) hb); clear HB; have HB := n0_; clear n0_; (try clear hb); (try clear hb2); (try clear hk); (try clear hi)) | ((with_reducible refine gate_callee (f := 9) rfl ?_); refine goesL_ (some 44) rfl rfl Try.func9 (by kernel_rfl) rfl #[.slice A2 l2.length c2] rfl (by (try simp only [List.map_toArray, List.map_cons, List.map_nil]); first | done | rfl | (simp only [List.length_drop, List.length_take]; rfl)) ?_; (with_reducible refine (columbariumlaw16_Text.calls k _ _ l2 t203 _ ?side1 ?side2 A14.out).mono ?_); (case side1 => repeat (first | exact (Kd.C_below HR2.out HB.out) | (with_reducible refine Kd.C_alloc ?_ _) | (with_reducible refine Kd.C_drewN ?_ _) | (with_reducible refine Kd.C_drew ?_))); (case side2 => exact HC2.out); rintro e w20 ⟨rfl, hb⟩; refine ⟨_, rfl, ?_⟩; have n0_ := Aside0.mk (below_step (by repeat (first | (with_reducible first | exact HB.out | apply below_alloc | apply pw_below_drewN | apply below_drew1) | exact HB.out)) hb); clear HB; have HB := n0_; clear n0_; (try clear hb); (try clear hb2); (try clear hk); (try clear hi)) | ((with_reducible refine gate_dst (N := 46) rfl ?_); refine Kd.R_lit Kd.string _ 9 ?hg (N := 46) ?hd (xs := ([a0.extract 0 ((ji6) : Int).toNat, t200, t201 ++ (a0.extract 0 ((ji6) : Int).toNat), (t202 ++ (⟨#[32]⟩ : ByteArray)) ++ t203] : List ByteArray)) (inner := [.string (a0.extract 0 ((ji6) : Int).toNat), .string t200, .string (t201 ++ (a0.extract 0 ((ji6) : Int).toNat)), .string ((t202 ++ (⟨#[32]⟩ : ByteArray)) ++ t203)]) (ok := fun _ => True) (okp := fun _ => True) ?hr ?hp (fun _ hk => hk) trivial (Below.refl _ _) (Nat.le_refl _) (by simp) ?_; (case hd => rfl); (case hg => rfl); (case hr => first | (go_simp; done) | (go_simp; rfl)); (case hp => exact (Reps.one (show Kd.M Kd.string _ _ _ (a0.extract 0 ((ji6) : Int).toNat) [.string (a0.extract 0 ((ji6) : Int).toNat)] from rfl) (Reps.one (show Kd.M Kd.string _ _ _ t200 [.string t200] from rfl) (Reps.one (show Kd.M Kd.string _ _ _ (t201 ++ (a0.extract 0 ((ji6) : Int).toNat)) [.string (t201 ++ (a0.extract 0 ((ji6) : Int).toNat))] from rfl) (Reps.one (show Kd.M Kd.string _ _ _ ((t202 ++ (⟨#[32]⟩ : ByteArray)) ++ t203) [.string ((t202 ++ (⟨#[32]⟩ : ByteArray)) ++ t203)] from rfl) (Reps.none _ _)))))); intro v205 w21 ho22 hb hg_ hnew_; clear hg_ hnew_; (first | rw [← Ny204.out] at ho22 | (simp only [Int.reduceToNat] at ho22; rw [← Ny204.out] at ho22)); have n0_ := Aside0.mk (Kd.R_lower ho22 (below_size (by repeat (first | (with_reducible first | exact HB.out | apply below_alloc | apply pw_below_drewN | apply below_drew1) | exact HB.out)))); have n1_ := Aside0.mk (below_step (by repeat (first | (with_reducible first | exact HB.out | apply below_alloc | apply pw_below_drewN | apply below_drew1) | exact HB.out)) hb); clear HB; have HO206 := n0_; have HB := n1_; clear n0_ n1_; clear hb ho22; obtain ⟨Ao23, co23, eo23⟩ := Kd.R_slice HO206.out; subst eo23))
            go_loopg [48] k (fun kq v48 w' => ∃ (x48_1 : Int), v48 = .int .i64 x48_1 ∧ Aside0 (columbariumlaw16_WordsTells.l0 kq a1 a3 t199 y204 (y204.length : Int) x48_1 = some r) ∧ Aside0 (kq ≤ k) ∧ Aside0 (Kd.R Kd.string 9 w' w.heap.size (fun _ => True) (.slice Ao23 y204.length co23) y204) ∧ Aside0 (Below w.heap.size w w'))
            case atStart => exact ⟨(0), (by first | rfl | (simp; done) | (simp [*]; done)), H', ⟨Nat.le_refl _⟩, ⟨by (with_reducible repeat (first | apply Kd.R_alloc | apply Kd.R_drewN | apply Kd.R_drew)); exact HO206.out⟩, ⟨by repeat (first | (with_reducible first | exact HB.out | apply below_alloc | apply pw_below_drewN | apply below_drew1) | exact HB.out)⟩⟩
            case round =>
              clear H'
              try clear c1
              try clear c2
              try clear p2
              try clear c3
              try clear c7
              try clear c7b0
              try clear c7b1
              try clear c8
              try clear c8b0
              try clear c8b1
              try clear c9
              try clear c10
              try clear c11
              try clear c11b0
              try clear c11b1
              try clear c11b2
              try clear c13
              try clear c13b0
              try clear c13b1
              try clear c13b2
              try clear c15
              try clear c15b0
              try clear c15b1
              try clear c15b2
              obtain ⟨x48_1, rfl, HA, HK1, HO_46, HB⟩ := hrel
              cases gk with
              | zero => exact absurd HA.out (by simp [columbariumlaw16_WordsTells.l0])
              | succ k1 =>
                have H := HA.out
                clear HA
                simp only [columbariumlaw16_WordsTells.l0] at H
                by_cases c24 : x48_1 < (y204.length : Int)
                · rw [if_pos c24] at H
                  have c24b0 : decide (x48_1 < (y204.length : Int)) = true := decide_eq_true c24
                  clear c24
                  by_cases c25 : 0 ≤ x48_1
                  · rw [if_pos c25] at H
                    have c25b0 : decide (0 ≤ x48_1) = true := decide_eq_true c25
                    clear c25
                    by_cases c26 : x48_1 < (y204.length : Int)
                    · rw [if_pos c26] at H
                      have c26b0 : decide (x48_1 < (y204.length : Int)) = true := decide_eq_true c26
                      clear c26
                      replace H := Option.bind_eq_some_iff.mp H
                      obtain ⟨⟨t208, t211⟩, A270, H⟩ := H
                      replace H : ((columbariumref16_Split.f k1 (rdOf ByteArray.empty y204 x48_1)).bind fun bt212 => ((words_Set.f (rdOf ByteArray.empty y204 x48_1)).bind fun bt216 => ((columbariumref16_Set.f k1 (rdOf ByteArray.empty y204 x48_1)).bind fun bt220 => ((columbariumref10_Texts.f k1 t208 bt212.1).bind fun t224 => (if t224 = true then (if t211 = bt212.2 then ((columbariumref10_Texts.f k1 bt216.1 bt220.1).bind fun t225 => (if t225 = true then (if bt216.2 = bt220.2 then ((words_May.f k1 (rdOf ByteArray.empty y204 x48_1)).bind fun t226 => ((columbariumref16_May.f k1 (rdOf ByteArray.empty y204 x48_1)).bind fun t227 => (if (t226 != t227) = true then (none) else (columbariumlaw16_WordsTells.l1 k1 a1 a3 t199 t208 0 y204 (y204.length : Int) x48_1)))) else (none)) else (none))) else (none)) else (none)))))) = some r := H
                      have A27 := Aside0.mk A270
                      clear A270
                      replace H := Option.bind_eq_some_iff.mp H
                      obtain ⟨⟨t212, t213⟩, A280, H⟩ := H
                      replace H : ((words_Set.f (rdOf ByteArray.empty y204 x48_1)).bind fun bt216 => ((columbariumref16_Set.f k1 (rdOf ByteArray.empty y204 x48_1)).bind fun bt220 => ((columbariumref10_Texts.f k1 t208 t212).bind fun t224 => (if t224 = true then (if t211 = t213 then ((columbariumref10_Texts.f k1 bt216.1 bt220.1).bind fun t225 => (if t225 = true then (if bt216.2 = bt220.2 then ((words_May.f k1 (rdOf ByteArray.empty y204 x48_1)).bind fun t226 => ((columbariumref16_May.f k1 (rdOf ByteArray.empty y204 x48_1)).bind fun t227 => (if (t226 != t227) = true then (none) else (columbariumlaw16_WordsTells.l1 k1 a1 a3 t199 t208 0 y204 (y204.length : Int) x48_1)))) else (none)) else (none))) else (none)) else (none))))) = some r := H
                      have A28 := Aside0.mk A280
                      clear A280
                      replace H := Option.bind_eq_some_iff.mp H
                      obtain ⟨⟨t216, t219⟩, A290, H⟩ := H
                      replace H : ((columbariumref16_Set.f k1 (rdOf ByteArray.empty y204 x48_1)).bind fun bt220 => ((columbariumref10_Texts.f k1 t208 t212).bind fun t224 => (if t224 = true then (if t211 = t213 then ((columbariumref10_Texts.f k1 t216 bt220.1).bind fun t225 => (if t225 = true then (if t219 = bt220.2 then ((words_May.f k1 (rdOf ByteArray.empty y204 x48_1)).bind fun t226 => ((columbariumref16_May.f k1 (rdOf ByteArray.empty y204 x48_1)).bind fun t227 => (if (t226 != t227) = true then (none) else (columbariumlaw16_WordsTells.l1 k1 a1 a3 t199 t208 0 y204 (y204.length : Int) x48_1)))) else (none)) else (none))) else (none)) else (none)))) = some r := H
                      have A29 := Aside0.mk A290
                      clear A290
                      replace H := Option.bind_eq_some_iff.mp H
                      obtain ⟨⟨t220, t221⟩, A300, H⟩ := H
                      replace H : ((columbariumref10_Texts.f k1 t208 t212).bind fun t224 => (if t224 = true then (if t211 = t213 then ((columbariumref10_Texts.f k1 t216 t220).bind fun t225 => (if t225 = true then (if t219 = t221 then ((words_May.f k1 (rdOf ByteArray.empty y204 x48_1)).bind fun t226 => ((columbariumref16_May.f k1 (rdOf ByteArray.empty y204 x48_1)).bind fun t227 => (if (t226 != t227) = true then (none) else (columbariumlaw16_WordsTells.l1 k1 a1 a3 t199 t208 0 y204 (y204.length : Int) x48_1)))) else (none)) else (none))) else (none)) else (none))) = some r := H
                      have A30 := Aside0.mk A300
                      clear A300
                      replace H := Option.bind_eq_some_iff.mp H
                      obtain ⟨t224, A310, H⟩ := H
                      replace H : (if t224 = true then (if t211 = t213 then ((columbariumref10_Texts.f k1 t216 t220).bind fun t225 => (if t225 = true then (if t219 = t221 then ((words_May.f k1 (rdOf ByteArray.empty y204 x48_1)).bind fun t226 => ((columbariumref16_May.f k1 (rdOf ByteArray.empty y204 x48_1)).bind fun t227 => (if (t226 != t227) = true then (none) else (columbariumlaw16_WordsTells.l1 k1 a1 a3 t199 t208 0 y204 (y204.length : Int) x48_1)))) else (none)) else (none))) else (none)) else (none)) = some r := H
                      have A31 := Aside0.mk A310
                      clear A310
                      by_cases c32 : t224 = true
                      · subst c32
                        have H1 : (if t211 = t213 then ((columbariumref10_Texts.f k1 t216 t220).bind fun t225 => (if t225 = true then (if t219 = t221 then ((words_May.f k1 (rdOf ByteArray.empty y204 x48_1)).bind fun t226 => ((columbariumref16_May.f k1 (rdOf ByteArray.empty y204 x48_1)).bind fun t227 => (if (t226 != t227) = true then (none) else (columbariumlaw16_WordsTells.l1 k1 a1 a3 t199 t208 0 y204 (y204.length : Int) x48_1)))) else (none)) else (none))) else (none)) = some r := by rw [if_pos rfl] at H; exact H
                        clear H
                        have H := H1
                        clear H1
                        by_cases c33 : t211 = t213
                        · rw [if_pos c33] at H
                          have c33b0 : (t211 == t213) = true := beq_iff_eq.mpr c33
                          have c33b1 : (t211 != t213) = false := bne_eq_false_iff_eq.mpr c33
                          clear c33
                          replace H := Option.bind_eq_some_iff.mp H
                          obtain ⟨t225, A340, H⟩ := H
                          replace H : (if t225 = true then (if t219 = t221 then ((words_May.f k1 (rdOf ByteArray.empty y204 x48_1)).bind fun t226 => ((columbariumref16_May.f k1 (rdOf ByteArray.empty y204 x48_1)).bind fun t227 => (if (t226 != t227) = true then (none) else (columbariumlaw16_WordsTells.l1 k1 a1 a3 t199 t208 0 y204 (y204.length : Int) x48_1)))) else (none)) else (none)) = some r := H
                          have A34 := Aside0.mk A340
                          clear A340
                          by_cases c35 : t225 = true
                          · subst c35
                            have H1 : (if t219 = t221 then ((words_May.f k1 (rdOf ByteArray.empty y204 x48_1)).bind fun t226 => ((columbariumref16_May.f k1 (rdOf ByteArray.empty y204 x48_1)).bind fun t227 => (if (t226 != t227) = true then (none) else (columbariumlaw16_WordsTells.l1 k1 a1 a3 t199 t208 0 y204 (y204.length : Int) x48_1)))) else (none)) = some r := by rw [if_pos rfl] at H; exact H
                            clear H
                            have H := H1
                            clear H1
                            by_cases c36 : t219 = t221
                            · rw [if_pos c36] at H
                              have c36b0 : (t219 == t221) = true := beq_iff_eq.mpr c36
                              have c36b1 : (t219 != t221) = false := bne_eq_false_iff_eq.mpr c36
                              clear c36
                              replace H := Option.bind_eq_some_iff.mp H
                              obtain ⟨t226, A370, H⟩ := H
                              replace H : ((columbariumref16_May.f k1 (rdOf ByteArray.empty y204 x48_1)).bind fun t227 => (if (t226 != t227) = true then (none) else (columbariumlaw16_WordsTells.l1 k1 a1 a3 t199 t208 0 y204 (y204.length : Int) x48_1))) = some r := H
                              have A37 := Aside0.mk A370
                              clear A370
                              replace H := Option.bind_eq_some_iff.mp H
                              obtain ⟨t227, A380, H⟩ := H
                              replace H : (if (t226 != t227) = true then (none) else (columbariumlaw16_WordsTells.l1 k1 a1 a3 t199 t208 0 y204 (y204.length : Int) x48_1)) = some r := H
                              have A38 := Aside0.mk A380
                              clear A380
                              by_cases c39 : (t226 != t227) = true
                              · rw [if_pos c39] at H
                                exact absurd H (by simp)
                              · rw [if_neg c39] at H
                                have c39b0 : (t226 != t227) = false := by simpa using c39
                                (try (have c39b1 : decide (t226 = t227) = true := by simpa using c39))
                                (try (have c39b2 : (t226 == t227) = true := by simpa using c39))
                                clear c39
                                have H' := Aside0.mk H
                                clear H
                                have p207 : 0 ≤ (x48_1 : Int) := of_decide_eq_true (by first | (with_reducible assumption) | assumption)
                                have q207 : x48_1 < (y204.length : Int) := of_decide_eq_true (by first | (with_reducible assumption) | assumption)
                                obtain ⟨ad207, e207, hx207_0⟩ := Kd.at_string (Kd.R_reads' HO_46.out).2.2 x48_1 p207 q207
                                cases e207
                                replace p207 := eq_true p207
                                replace q207 := eq_true q207
                                go_wp2_with (first | ((with_reducible refine gate_callee (f := 11) rfl ?_); refine goesL_ (some 54) rfl rfl Try.func11 (by kernel_rfl) rfl #[.string (rdOf ByteArray.empty y204 x48_1)] rfl (by (try simp only [List.map_toArray, List.map_cons, List.map_nil]); first | done | rfl | (simp only [List.length_drop, List.length_take]; rfl)) ?_; (with_reducible refine (words_Split.calls (rdOf ByteArray.empty y204 x48_1) t208 t211 _ A27.out).mono ?_); rintro e w40 ⟨v209, rfl, ho0, hb⟩; refine ⟨_, rfl, ?_⟩; have n0_ := Aside0.mk (Kd.R_below (by (with_reducible repeat (first | apply Kd.R_alloc | apply Kd.R_drewN | apply Kd.R_drew)); exact HO_46.out) hb); have n1_ := Aside0.mk (Kd.V_lower (Kd.V_mono (ok' := fun k_ => some k_ ≠ (.slice (some ad207) y204.length co23 : Value).ownBlock) ho0 (fun k_ hk_ => (Kd.fresh' (Kd.R_lt (by (with_reducible repeat (first | apply Kd.R_alloc | apply Kd.R_drewN | apply Kd.R_drew)); exact HO_46.out)) k_ hk_))) (below_size (by repeat (first | (with_reducible first | exact HB.out | apply below_alloc | apply pw_below_drewN | apply below_drew1) | exact HB.out)))); have n2_ := Aside0.mk (below_step (by repeat (first | (with_reducible first | exact HB.out | apply below_alloc | apply pw_below_drewN | apply below_drew1) | exact HB.out)) hb); clear HO_46; clear HB; have HO_46 := n0_; have HO210 := n1_; have HB := n2_; clear n0_ n1_ n2_; (try clear hb); (try clear hb2); (try clear hk); (try clear hi); (try clear ho0)) | ((with_reducible refine gate_callee (f := 12) rfl ?_); refine goesL_ (some 59) rfl rfl Try.func12 (by kernel_rfl) rfl #[.string (rdOf ByteArray.empty y204 x48_1)] rfl (by (try simp only [List.map_toArray, List.map_cons, List.map_nil]); first | done | rfl | (simp only [List.length_drop, List.length_take]; rfl)) ?_; (with_reducible refine (columbariumref16_Split.calls k1 (rdOf ByteArray.empty y204 x48_1) t212 t213 _ A28.out).mono ?_); rintro e w41 ⟨v214, rfl, ho0, hb⟩; refine ⟨_, rfl, ?_⟩; have n0_ := Aside0.mk (Kd.R_elder' (by (with_reducible repeat (first | apply Kd.R_alloc | apply Kd.R_drewN | apply Kd.R_drew)); exact HO_46.out) (Kd.R_base ho0) hb); have n1_ := Aside0.mk (Kd.V_elder' (by (with_reducible repeat (first | apply Kd.V_alloc | apply Kd.V_drewN | apply Kd.V_drew)); exact HO210.out) (Kd.R_base ho0) hb); have n2_ := Aside0.mk (Kd.R_lower (Kd.R_new' ho0 (Kd.R_lt (by (with_reducible repeat (first | apply Kd.R_alloc | apply Kd.R_drewN | apply Kd.R_drew)); exact HO_46.out))) (below_size (by repeat (first | (with_reducible first | exact HB.out | apply below_alloc | apply pw_below_drewN | apply below_drew1) | exact HB.out)))); have n3_ := Aside0.mk (below_step (by repeat (first | (with_reducible first | exact HB.out | apply below_alloc | apply pw_below_drewN | apply below_drew1) | exact HB.out)) hb); clear HO_46; clear HO210; clear HB; have HO_46 := n0_; have HO210 := n1_; have HO215 := n2_; have HB := n3_; clear n0_ n1_ n2_ n3_; (try clear hb); (try clear hb2); (try clear hk); (try clear hi); (try clear ho0)) | ((with_reducible refine gate_callee (f := 13) rfl ?_); refine goesL_ (some 64) rfl rfl Try.func13 (by kernel_rfl) rfl #[.string (rdOf ByteArray.empty y204 x48_1)] rfl (by (try simp only [List.map_toArray, List.map_cons, List.map_nil]); first | done | rfl | (simp only [List.length_drop, List.length_take]; rfl)) ?_; (with_reducible refine (words_Set.calls (rdOf ByteArray.empty y204 x48_1) t216 t219 _ A29.out).mono ?_); rintro e w42 ⟨v217, rfl, ho0, hb⟩; refine ⟨_, rfl, ?_⟩; have n0_ := Aside0.mk (Kd.R_below (by (with_reducible repeat (first | apply Kd.R_alloc | apply Kd.R_drewN | apply Kd.R_drew)); exact HO_46.out) hb); have n1_ := Aside0.mk (Kd.V_below (by (with_reducible repeat (first | apply Kd.V_alloc | apply Kd.V_drewN | apply Kd.V_drew)); exact HO210.out) hb); have n2_ := Aside0.mk (Kd.R_below (by (with_reducible repeat (first | apply Kd.R_alloc | apply Kd.R_drewN | apply Kd.R_drew)); exact HO215.out) hb); have n3_ := Aside0.mk (Kd.V_lower (Kd.V_mono (ok' := fun k_ => some k_ ≠ (.slice (some ad207) y204.length co23 : Value).ownBlock ∧ some k_ ≠ (v214 : Value).ownBlock) ho0 (fun k_ hk_ => ⟨(Kd.fresh' (Kd.R_lt (by (with_reducible repeat (first | apply Kd.R_alloc | apply Kd.R_drewN | apply Kd.R_drew)); exact HO_46.out)) k_ hk_), (Kd.fresh' (Kd.R_lt (by (with_reducible repeat (first | apply Kd.R_alloc | apply Kd.R_drewN | apply Kd.R_drew)); exact HO215.out)) k_ hk_)⟩)) (below_size (by repeat (first | (with_reducible first | exact HB.out | apply below_alloc | apply pw_below_drewN | apply below_drew1) | exact HB.out)))); have n4_ := Aside0.mk (below_step (by repeat (first | (with_reducible first | exact HB.out | apply below_alloc | apply pw_below_drewN | apply below_drew1) | exact HB.out)) hb); clear HO_46; clear HO210; clear HO215; clear HB; have HO_46 := n0_; have HO210 := n1_; have HO215 := n2_; have HO218 := n3_; have HB := n4_; clear n0_ n1_ n2_ n3_ n4_; (try clear hb); (try clear hb2); (try clear hk); (try clear hi); (try clear ho0)) | ((with_reducible refine gate_callee (f := 14) rfl ?_); refine goesL_ (some 69) rfl rfl Try.func14 (by kernel_rfl) rfl #[.string (rdOf ByteArray.empty y204 x48_1)] rfl (by (try simp only [List.map_toArray, List.map_cons, List.map_nil]); first | done | rfl | (simp only [List.length_drop, List.length_take]; rfl)) ?_; (with_reducible refine (columbariumref16_Set.calls k1 (rdOf ByteArray.empty y204 x48_1) t220 t221 _ A30.out).mono ?_); rintro e w43 ⟨v222, rfl, ho0, hb⟩; refine ⟨_, rfl, ?_⟩; have n0_ := Aside0.mk (Kd.R_elder' (by (with_reducible repeat (first | apply Kd.R_alloc | apply Kd.R_drewN | apply Kd.R_drew)); exact HO_46.out) (Kd.R_base ho0) hb); have n1_ := Aside0.mk (Kd.V_elder' (by (with_reducible repeat (first | apply Kd.V_alloc | apply Kd.V_drewN | apply Kd.V_drew)); exact HO210.out) (Kd.R_base ho0) hb); have n2_ := Aside0.mk (Kd.R_elder' (by (with_reducible repeat (first | apply Kd.R_alloc | apply Kd.R_drewN | apply Kd.R_drew)); exact HO215.out) (Kd.R_base ho0) hb); have n3_ := Aside0.mk (Kd.V_elder' (by (with_reducible repeat (first | apply Kd.V_alloc | apply Kd.V_drewN | apply Kd.V_drew)); exact HO218.out) (Kd.R_base ho0) hb); have n4_ := Aside0.mk (Kd.R_lower (Kd.R_new' (Kd.R_new' ho0 (Kd.R_lt (by (with_reducible repeat (first | apply Kd.R_alloc | apply Kd.R_drewN | apply Kd.R_drew)); exact HO_46.out))) (Kd.R_lt (by (with_reducible repeat (first | apply Kd.R_alloc | apply Kd.R_drewN | apply Kd.R_drew)); exact HO215.out))) (below_size (by repeat (first | (with_reducible first | exact HB.out | apply below_alloc | apply pw_below_drewN | apply below_drew1) | exact HB.out)))); have n5_ := Aside0.mk (below_step (by repeat (first | (with_reducible first | exact HB.out | apply below_alloc | apply pw_below_drewN | apply below_drew1) | exact HB.out)) hb); clear HO_46; clear HO210; clear HO215; clear HO218; clear HB; have HO_46 := n0_; have HO210 := n1_; have HO215 := n2_; have HO218 := n3_; have HO223 := n4_; have HB := n5_; clear n0_ n1_ n2_ n3_ n4_ n5_; (try clear hb); (try clear hb2); (try clear hk); (try clear hi); (try clear ho0); obtain ⟨Ao44, co44, eo44⟩ := Kd.V_slice HO210.out; subst eo44; obtain ⟨Ao45, co45, eo45⟩ := Kd.R_slice HO215.out; subst eo45) | ((with_reducible refine gate_callee (f := 15) rfl ?_); refine goesL_ (some 74) rfl rfl Try.func15 (by kernel_rfl) rfl #[.slice Ao44 t208.length co44, .slice Ao45 t212.length co45] rfl (by (try simp only [List.map_toArray, List.map_cons, List.map_nil]); first | done | rfl | (simp only [List.length_drop, List.length_take]; rfl)) ?_; (with_reducible refine (columbariumref10_Texts.calls k1 _ _ t208 _ _ t212 true _ ?side1 ?side2 ?side3 ?side4 A31.out).mono ?_); (case side1 => repeat (first | exact (Kd.V_reads' HO210.out).2.2 | (with_reducible refine Kd.C_alloc ?_ _) | (with_reducible refine Kd.C_drewN ?_ _) | (with_reducible refine Kd.C_drew ?_))); (case side2 => exact (Kd.V_reads' HO210.out).2.1); (case side3 => repeat (first | exact (Kd.R_reads' HO215.out).2.2 | (with_reducible refine Kd.C_alloc ?_ _) | (with_reducible refine Kd.C_drewN ?_ _) | (with_reducible refine Kd.C_drew ?_))); (case side4 => exact (Kd.R_reads' HO215.out).2.1); rintro e w' ⟨rfl, ⟨nd, rfl⟩⟩; refine ⟨_, rfl, ?_⟩; obtain ⟨Ao46, co46, eo46⟩ := Kd.V_slice HO218.out; subst eo46; obtain ⟨Ao47, co47, eo47⟩ := Kd.R_slice HO223.out; subst eo47) | (go_at_call 15; (with_reducible refine (columbariumref10_Texts.calls k1 _ _ t216 _ _ t220 true _ ?side1 ?side2 ?side3 ?side4 A34.out).mono ?_); (case side1 => repeat (first | exact (Kd.V_reads' HO218.out).2.2 | (with_reducible refine Kd.C_alloc ?_ _) | (with_reducible refine Kd.C_drewN ?_ _) | (with_reducible refine Kd.C_drew ?_))); (case side2 => exact (Kd.V_reads' HO218.out).2.1); (case side3 => repeat (first | exact (Kd.R_reads' HO223.out).2.2 | (with_reducible refine Kd.C_alloc ?_ _) | (with_reducible refine Kd.C_drewN ?_ _) | (with_reducible refine Kd.C_drew ?_))); (case side4 => exact (Kd.R_reads' HO223.out).2.1); rintro e w' ⟨rfl, ⟨nd, rfl⟩⟩) | (go_at_call 16; (with_reducible refine (words_May.calls k1 (rdOf ByteArray.empty y204 x48_1) t226 _ A37.out).mono ?_); rintro e w48 ⟨rfl, hb⟩; have n0_ := Aside0.mk (Kd.R_below (by (with_reducible repeat (first | apply Kd.R_alloc | apply Kd.R_drewN | apply Kd.R_drew)); exact HO_46.out) hb); have n1_ := Aside0.mk (Kd.V_below (by (with_reducible repeat (first | apply Kd.V_alloc | apply Kd.V_drewN | apply Kd.V_drew)); exact HO210.out) hb); have n2_ := Aside0.mk (Kd.R_below (by (with_reducible repeat (first | apply Kd.R_alloc | apply Kd.R_drewN | apply Kd.R_drew)); exact HO215.out) hb); have n3_ := Aside0.mk (Kd.V_below (by (with_reducible repeat (first | apply Kd.V_alloc | apply Kd.V_drewN | apply Kd.V_drew)); exact HO218.out) hb); have n4_ := Aside0.mk (Kd.R_below (by (with_reducible repeat (first | apply Kd.R_alloc | apply Kd.R_drewN | apply Kd.R_drew)); exact HO223.out) hb); have n5_ := Aside0.mk (below_step (by repeat (first | (with_reducible first | exact HB.out | apply below_alloc | apply pw_below_drewN | apply below_drew1) | exact HB.out)) hb); clear HO_46; clear HO210; clear HO215; clear HO218; clear HO223; clear HB; have HO_46 := n0_; have HO210 := n1_; have HO215 := n2_; have HO218 := n3_; have HO223 := n4_; have HB := n5_; clear n0_ n1_ n2_ n3_ n4_ n5_; (try clear hb); (try clear hb2); (try clear hk); (try clear hi)) | (go_at_call 17; (with_reducible refine (columbariumref16_May.calls k1 (rdOf ByteArray.empty y204 x48_1) t227 _ A38.out).mono ?_); rintro e w' ⟨rfl, ⟨nd, rfl⟩⟩))
                                go_loopg [21] k1 (fun kq v21 w' => ∃ (x21_2 : Int), v21 = .int .i64 x21_2 ∧ Aside0 (columbariumlaw16_WordsTells.l1 kq a1 a3 t199 t208 x21_2 y204 (y204.length : Int) x48_1 = some r) ∧ Aside0 (kq ≤ k1) ∧ Aside0 (Kd.V Kd.string 9 w' w.heap.size (fun k_ => some k_ ≠ ((.slice (some ad207) y204.length co23) : Value).ownBlock) (.slice Ao44 t208.length co44) t208) ∧ Aside0 (Kd.R Kd.string 9 w' w.heap.size (fun _ => True) (.slice (some ad207) y204.length co23) y204) ∧ Aside0 (Below w.heap.size w w'))
                                case atStart => exact ⟨(0), (by first | rfl | (simp; done) | (simp [*]; done)), H', ⟨Nat.le_refl _⟩, ⟨by (with_reducible repeat (first | apply Kd.V_alloc | apply Kd.V_drewN | apply Kd.V_drew)); exact Kd.V_mono HO210.out (fun _ hk => hk.1.1)⟩, ⟨by (with_reducible repeat (first | apply Kd.R_alloc | apply Kd.R_drewN | apply Kd.R_drew)); exact Kd.R_mono HO_46.out (fun _ hk => trivial)⟩, ⟨by repeat (first | (with_reducible first | exact HB.out | apply below_alloc | apply pw_below_drewN | apply below_drew1) | exact HB.out)⟩⟩
                                case round =>
                                  clear H'
                                  try clear c1
                                  try clear c2
                                  try clear p2
                                  try clear q2
                                  try clear hx2
                                  try clear c3
                                  try clear c7
                                  try clear c7b0
                                  try clear c7b1
                                  try clear c8
                                  try clear c8b0
                                  try clear c8b1
                                  try clear c9
                                  try clear c10
                                  try clear c11
                                  try clear c11b0
                                  try clear c11b1
                                  try clear c11b2
                                  try clear c12
                                  try clear c13
                                  try clear c13b0
                                  try clear c13b1
                                  try clear c13b2
                                  try clear c14
                                  try clear c15
                                  try clear c15b0
                                  try clear c15b1
                                  try clear c15b2
                                  try clear p20
                                  try clear q20
                                  try clear hx20
                                  try clear c24
                                  try clear c24b0
                                  try clear c25
                                  try clear c25b0
                                  try clear c26
                                  try clear c26b0
                                  try clear c32
                                  try clear c33
                                  try clear c33b0
                                  try clear c33b1
                                  try clear c35
                                  try clear c36
                                  try clear c36b0
                                  try clear c36b1
                                  try clear c39
                                  try clear c39b0
                                  try clear c39b1
                                  try clear c39b2
                                  try clear hx207_0
                                  try clear p2
                                  try clear p207
                                  try clear q207
                                  obtain ⟨x21_2, rfl, HA, HK2, HO_13, HO_46, HB⟩ := hrel
                                  cases gk with
                                  | zero => exact absurd HA.out (by simp [columbariumlaw16_WordsTells.l1])
                                  | succ k2 =>
                                    have H := HA.out
                                    clear HA
                                    simp only [columbariumlaw16_WordsTells.l1] at H
                                    by_cases c49 : x21_2 < (t208.length : Int)
                                    · rw [if_pos c49] at H
                                      have c49b0 : decide (x21_2 < (t208.length : Int)) = true := decide_eq_true c49
                                      clear c49
                                      by_cases c50 : x21_2 < 9
                                      · rw [if_pos c50] at H
                                        have c50b0 : decide (x21_2 < 9) = true := decide_eq_true c50
                                        clear c50
                                        by_cases c51 : 0 ≤ x21_2
                                        · rw [if_pos c51] at H
                                          have c51b0 : decide (0 ≤ x21_2) = true := decide_eq_true c51
                                          clear c51
                                          replace H := Option.bind_eq_some_iff.mp H
                                          obtain ⟨t229, A520, H⟩ := H
                                          replace H : ((columbariumref16_May.f k2 (rdOf ByteArray.empty t208 x21_2)).bind fun t231 => (if (t229 != t231) = true then (none) else (columbariumlaw16_WordsTells.l1 k2 a1 a3 t199 t208 (wrap64 (x21_2 + 1)) y204 (y204.length : Int) x48_1))) = some r := H
                                          have A52 := Aside0.mk A520
                                          clear A520
                                          replace H := Option.bind_eq_some_iff.mp H
                                          obtain ⟨t231, A530, H⟩ := H
                                          replace H : (if (t229 != t231) = true then (none) else (columbariumlaw16_WordsTells.l1 k2 a1 a3 t199 t208 (wrap64 (x21_2 + 1)) y204 (y204.length : Int) x48_1)) = some r := H
                                          have A53 := Aside0.mk A530
                                          clear A530
                                          by_cases c54 : (t229 != t231) = true
                                          · rw [if_pos c54] at H
                                            exact absurd H (by simp)
                                          · rw [if_neg c54] at H
                                            have c54b0 : (t229 != t231) = false := by simpa using c54
                                            (try (have c54b1 : decide (t229 = t231) = true := by simpa using c54))
                                            (try (have c54b2 : (t229 == t231) = true := by simpa using c54))
                                            clear c54
                                            have H' := Aside0.mk H
                                            clear H
                                            try go_wp2
                                            have n0_ := Aside0.mk (Kd.V_drew HO_13.out)
                                            have n1_ := Aside0.mk (Kd.R_drew HO_46.out)
                                            have n2_ := Aside0.mk (below_drew1 HB.out)
                                            clear HO_13
                                            clear HO_46
                                            clear HB
                                            have HO_13 := n0_
                                            have HO_46 := n1_
                                            have HB := n2_
                                            clear n0_ n1_ n2_
                                            have p228 : 0 ≤ (x21_2 : Int) := of_decide_eq_true (by first | (with_reducible assumption) | assumption)
                                            have q228 : x21_2 < (t208.length : Int) := of_decide_eq_true (by first | (with_reducible assumption) | assumption)
                                            obtain ⟨ad228, e228, hx228_0⟩ := Kd.at_string (Kd.V_reads' HO_13.out).2.2 x21_2 p228 q228
                                            cases e228
                                            replace p228 := eq_true p228
                                            replace q228 := eq_true q228
                                            have p230 : 0 ≤ (x21_2 : Int) := of_decide_eq_true (by first | (with_reducible assumption) | assumption)
                                            have q230 : x21_2 < (t208.length : Int) := of_decide_eq_true (by first | (with_reducible assumption) | assumption)
                                            obtain ⟨ad230, e230, hx230_0⟩ := Kd.at_string (Kd.V_reads' HO_13.out).2.2 x21_2 p230 q230
                                            obtain rfl : ad228 = ad230 := (by injection e230)
                                            replace p230 := eq_true p230
                                            replace q230 := eq_true q230
                                            refine start_ (n := 11) (S := fun w' => w'.cell? (ad228.add (x21_2).toNat) = some (.string (rdOf ByteArray.empty t208 x21_2)) ∧ w'.cell? (ad228.add (x21_2).toNat) = some (.string (rdOf ByteArray.empty t208 x21_2))) (ds := []) #[false, false, false, false, false, false, false, false, false, false, false] (by kernel_rfl) rfl rfl ⟨hx228_0, hx230_0⟩ (fun hHeld => ?_); refine with_tabW columbariumlaw16_WordsTells.tab15 columbariumlaw16_WordsTells.bits15 (fun HT_ HW_ => ?_)
                                            generalize wr.drew = w55 at HO_13 HO_46 HB hx228_0 hx230_0 hHeld ⊢
                                            refine pure_ (i := 0) (N := some 109) (v := ?_) (a' := ?_) #[true, false, false, false, false, false, false, false, false, false, false] rfl rfl (any_of HT_.out (by kernel_rfl)) (fun _ _ _ h => h) (Or.inl ⟨by rfl, ?_⟩) ?_ ?_
                                            rotate_left
                                            · intro w'
                                              go_simp
                                              with_reducible rfl
                                            rotate_left
                                            · simp only [Act.put, List.setIfInBounds_toArray, List.set_cons_zero, List.set_cons_succ, i64_w, i32_w]
                                              rfl
                                            refine pure_ (i := 1) (N := some 110) (v := ?_) (a' := ?_) #[true, true, false, false, false, false, false, false, false, false, false] rfl rfl (any_of HT_.out (by kernel_rfl)) (fun _ _ _ h => h) (Or.inl ⟨by rfl, ?_⟩) ?_ ?_
                                            rotate_left
                                            · intro w'
                                              go_simp
                                              with_reducible rfl
                                            rotate_left
                                            · simp only [Act.put, List.setIfInBounds_toArray, List.set_cons_zero, List.set_cons_succ, i64_w, i32_w]
                                              rfl
                                            refine pure_ (i := 2) (N := some 111) (v := ?_) (a' := ?_) #[true, true, true, false, false, false, false, false, false, false, false] rfl rfl (any_of HT_.out (by kernel_rfl)) (fun _ _ _ h => h) (Or.inl ⟨by rfl, ?_⟩) ?_ ?_
                                            rotate_left
                                            · intro w'
                                              go_simp
                                              with_reducible rfl
                                            rotate_left
                                            · simp only [Act.put, List.setIfInBounds_toArray, List.set_cons_zero, List.set_cons_succ, i64_w, i32_w]
                                              rfl
                                            refine pure_ (i := 5) (N := some 114) (v := ?_) (a' := ?_) #[true, true, true, false, false, true, false, false, false, false, false] rfl rfl (any_of HT_.out (by kernel_rfl)) (fun _ _ _ h => h) (Or.inl ⟨by rfl, ?_⟩) ?_ ?_
                                            rotate_left
                                            · intro w'
                                              go_simp
                                              with_reducible rfl
                                            rotate_left
                                            · simp only [Act.put, List.setIfInBounds_toArray, List.set_cons_zero, List.set_cons_succ, i64_w, i32_w]
                                              rfl
                                            refine pure_ (i := 6) (N := some 115) (v := ?_) (a' := ?_) #[true, true, true, false, false, true, true, false, false, false, false] rfl rfl (any_of HT_.out (by kernel_rfl)) (fun _ _ _ h => h) (Or.inl ⟨by rfl, ?_⟩) ?_ ?_
                                            rotate_left
                                            · intro w'
                                              go_simp
                                              with_reducible rfl
                                            rotate_left
                                            · simp only [Act.put, List.setIfInBounds_toArray, List.set_cons_zero, List.set_cons_succ, i64_w, i32_w]
                                              rfl
                                            refine pure_ (i := 7) (N := some 116) (v := ?_) (a' := ?_) #[true, true, true, false, false, true, true, true, false, false, false] rfl rfl (any_of HT_.out (by kernel_rfl)) (fun _ _ _ h => h) (Or.inl ⟨by rfl, ?_⟩) ?_ ?_
                                            rotate_left
                                            · intro w'
                                              go_simp
                                              with_reducible rfl
                                            rotate_left
                                            · simp only [Act.put, List.setIfInBounds_toArray, List.set_cons_zero, List.set_cons_succ, i64_w, i32_w]
                                              rfl
                                            refine take_ (i := 3) (N := some 112) (v := ?_) (a' := ?_) #[true, true, true, true, false, true, true, true, false, false, false] rfl rfl (take_ofW HT_.out HW_.out (by kernel_rfl)) (fun _ _ _ h => h) (Or.inl ⟨by rfl, ?_⟩) hHeld ?_ ?_
                                            rotate_left
                                            · rintro w' ⟨s0, s1⟩
                                              go_simp
                                              with_reducible rfl
                                            rotate_left
                                            · simp only [Act.put, List.setIfInBounds_toArray, List.set_cons_zero, List.set_cons_succ, i64_w, i32_w]
                                              rfl
                                            refine take_ (i := 8) (N := some 117) (v := ?_) (a' := ?_) #[true, true, true, true, false, true, true, true, true, false, false] rfl rfl (take_ofW HT_.out HW_.out (by kernel_rfl)) (fun _ _ _ h => h) (Or.inl ⟨by rfl, ?_⟩) hHeld ?_ ?_
                                            rotate_left
                                            · rintro w' ⟨s0, s1⟩
                                              go_simp
                                              with_reducible rfl
                                            rotate_left
                                            · simp only [Act.put, List.setIfInBounds_toArray, List.set_cons_zero, List.set_cons_succ, i64_w, i32_w]
                                              rfl
                                            refine one_ (i := 4) (N := some 113) #[true, true, true, true, true, true, true, true, true, false, false] rfl rfl (one_of HT_.out (by kernel_rfl)) (by decide) (fun K hK => ?_)
                                            refine goes_ Try.func16 (by kernel_rfl) rfl #[.string (rdOf ByteArray.empty t208 x21_2)] (by rfl) rfl rfl (by (try simp only [List.map_toArray, List.map_cons, List.map_nil]); first | done | rfl | (simp only [List.length_drop, List.length_take]; rfl)) ?_
                                            with_reducible refine (words_May.calls k2 (rdOf ByteArray.empty t208 x21_2) t229 _ A52.out).mono ?_
                                            rintro e w56 ⟨rfl, hb⟩
                                            have HS0_ := (hb.cell (World.block_lt_of_cell? _ _ (hHeld.1))).trans (hHeld.1)
                                            have HS1_ := (hb.cell (World.block_lt_of_cell? _ _ (hHeld.2))).trans (hHeld.2)
                                            refine ⟨_, rfl, ?_⟩
                                            have n0_ := Aside0.mk (Kd.V_below (by (with_reducible repeat (first | apply Kd.V_alloc | apply Kd.V_drewN | apply Kd.V_drew)); exact HO_13.out) hb)
                                            have n1_ := Aside0.mk (Kd.R_below (by (with_reducible repeat (first | apply Kd.R_alloc | apply Kd.R_drewN | apply Kd.R_drew)); exact HO_46.out) hb)
                                            have n2_ := Aside0.mk (below_step (by repeat (first | (with_reducible first | exact HB.out | apply below_alloc | apply pw_below_drewN | apply below_drew1) | exact HB.out)) hb)
                                            clear HO_13
                                            clear HO_46
                                            clear HB
                                            have HO_13 := n0_
                                            have HO_46 := n1_
                                            have HB := n2_
                                            clear n0_ n1_ n2_
                                            (try clear hb)
                                            (try clear hb2)
                                            (try clear hk)
                                            (try clear hi)
                                            refine hK.out _ _ ⟨HS0_, HS1_⟩ (fun hHeld => ?_)
                                            clear hK K
                                            refine norm_ (a' := ?_) ?_ ?_
                                            rotate_left
                                            · show Act.put _ (some 113) _ = _
                                              simp only [Act.put, List.setIfInBounds_toArray, List.set_cons_zero, List.set_cons_succ, i64_w, i32_w]
                                              rfl
                                            refine one_ (i := 9) (N := some 118) #[true, true, true, true, true, true, true, true, true, true, false] rfl rfl (one_of HT_.out (by kernel_rfl)) (by decide) (fun K hK => ?_)
                                            refine goes_ Try.func17 (by kernel_rfl) rfl #[.string (rdOf ByteArray.empty t208 x21_2)] (by rfl) rfl rfl (by (try simp only [List.map_toArray, List.map_cons, List.map_nil]); first | done | rfl | (simp only [List.length_drop, List.length_take]; rfl)) ?_
                                            with_reducible refine (columbariumref16_May.calls k2 (rdOf ByteArray.empty t208 x21_2) t231 _ A53.out).mono ?_
                                            rintro e w' ⟨rfl, ⟨nd, rfl⟩⟩
                                            refine ⟨_, rfl, ?_⟩
                                            refine hK.out _ _ ⟨hHeld.1, hHeld.2⟩ (fun hHeld => ?_)
                                            clear hK K
                                            refine norm_ (a' := ?_) ?_ ?_
                                            rotate_left
                                            · show Act.put _ (some 118) _ = _
                                              simp only [Act.put, List.setIfInBounds_toArray, List.set_cons_zero, List.set_cons_succ, i64_w, i32_w]
                                              rfl
                                            refine pure_ (i := 10) (N := some 119) (v := ?_) (a' := ?_) #[true, true, true, true, true, true, true, true, true, true, true] rfl rfl (any_of HT_.out (by kernel_rfl)) (fun _ _ _ h => h) (Or.inl ⟨by rfl, ?_⟩) ?_ ?_
                                            rotate_left
                                            · intro w'
                                              go_simp
                                              with_reducible rfl
                                            rotate_left
                                            · simp only [Act.put, List.setIfInBounds_toArray, List.set_cons_zero, List.set_cons_succ, i64_w, i32_w]
                                              rfl
                                            refine done_ (done_of HT_.out (by kernel_rfl)) ?_
                                            try go_wp2
                                            go_roundg k2
                                            case measure => have := HK1.out; have := HK2.out; omega
                                            case rel => exact ⟨(wrap64 (x21_2 + 1)), (by first | rfl | (simp; done) | (simp [*]; done)), H', ⟨by have := HK1.out; have := HK2.out; omega⟩, ⟨by (with_reducible repeat (first | apply Kd.V_alloc | apply Kd.V_drewN | apply Kd.V_drew)); exact HO_13.out⟩, ⟨by (with_reducible repeat (first | apply Kd.R_alloc | apply Kd.R_drewN | apply Kd.R_drew)); exact HO_46.out⟩, ⟨by repeat (first | (with_reducible first | exact HB.out | apply below_alloc | apply pw_below_drewN | apply below_drew1) | exact HB.out)⟩⟩
                                        · rw [if_neg c51] at H
                                          exact absurd H (by simp)
                                      · rw [if_neg c50] at H
                                        have c50b0 : decide (x21_2 < 9) = false := decide_eq_false c50
                                        clear c50
                                        have H' := Aside0.mk H
                                        clear H
                                        go_wp2
                                        go_roundg k2
                                        case measure => have := HK1.out; have := HK2.out; omega
                                        case rel => exact ⟨(wrap64 (x48_1 + 1)), (by first | rfl | (simp; done) | (simp [*]; done)), H', ⟨by have := HK1.out; have := HK2.out; omega⟩, ⟨by (with_reducible repeat (first | apply Kd.R_alloc | apply Kd.R_drewN | apply Kd.R_drew)); exact HO_46.out⟩, ⟨by repeat (first | (with_reducible first | exact HB.out | apply below_alloc | apply pw_below_drewN | apply below_drew1) | exact HB.out)⟩⟩
                                    · rw [if_neg c49] at H
                                      have c49b0 : decide (x21_2 < (t208.length : Int)) = false := decide_eq_false c49
                                      clear c49
                                      have H' := Aside0.mk H
                                      clear H
                                      go_wp2
                                      go_roundg k2
                                      case measure => have := HK1.out; have := HK2.out; omega
                                      case rel => exact ⟨(wrap64 (x48_1 + 1)), (by first | rfl | (simp; done) | (simp [*]; done)), H', ⟨by have := HK1.out; have := HK2.out; omega⟩, ⟨by (with_reducible repeat (first | apply Kd.R_alloc | apply Kd.R_drewN | apply Kd.R_drew)); exact HO_46.out⟩, ⟨by repeat (first | (with_reducible first | exact HB.out | apply below_alloc | apply pw_below_drewN | apply below_drew1) | exact HB.out)⟩⟩
                            · rw [if_neg c36] at H
                              exact absurd H (by simp)
                          · replace c35 := Bool.eq_false_iff.mpr c35
                            subst c35
                            have H1 : (none) = some r := by rw [if_neg (show ¬ (false = true) by decide)] at H; exact H
                            clear H
                            have H := H1
                            clear H1
                            exact absurd H (by simp)
                        · rw [if_neg c33] at H
                          exact absurd H (by simp)
                      · replace c32 := Bool.eq_false_iff.mpr c32
                        subst c32
                        have H1 : (none) = some r := by rw [if_neg (show ¬ (false = true) by decide)] at H; exact H
                        clear H
                        have H := H1
                        clear H1
                        exact absurd H (by simp)
                    · rw [if_neg c26] at H
                      exact absurd H (by simp)
                  · rw [if_neg c25] at H
                    exact absurd H (by simp)
                · rw [if_neg c24] at H
                  have c24b0 : decide (x48_1 < (y204.length : Int)) = false := decide_eq_false c24
                  clear c24
                  replace H := Option.bind_eq_some_iff.mp H
                  obtain ⟨t232, A570, H⟩ := H
                  replace H : (if 0 ≤ (wrap64 (1998 + t232)) then (if (wrap64 (1998 + t232) : Int).toNat ≤ 281474976710656 then ((words_Split.f (strOfNums (List.replicate (wrap64 (1998 + t232) : Int).toNat 0))).bind fun bt236 => ((words_Set.f (strOfNums (List.replicate (wrap64 (1998 + t232) : Int).toNat 0))).bind fun bt243 => (if t199 = true then ((words_Sign.f k1 a1).bind fun t247 => ((columbariumref16_Sign.f k1 a1).bind fun t248 => (if t247 = t248 then (if ((bt236.2 == 0) == (decide ((wrap64 (1998 + t232)) ≤ 2000))) = true then (if bt236.2 = bt243.2 then (if bt236.2 = 0 then (some true) else (some (bt236.2 == 2))) else (none)) else (none)) else (none)))) else (none)))) else (none)) else (none)) = some r := H
                  have A57 := Aside0.mk A570
                  clear A570
                  obtain ⟨ji58, hji58⟩ : ∃ j_ : Int, (wrap64 (1998 + t232)) = j_ := ⟨_, rfl⟩
                  replace H : (if 0 ≤ (ji58) then (if (ji58 : Int).toNat ≤ 281474976710656 then ((words_Split.f (strOfNums (List.replicate (ji58 : Int).toNat 0))).bind fun bt236 => ((words_Set.f (strOfNums (List.replicate (ji58 : Int).toNat 0))).bind fun bt243 => (if t199 = true then ((words_Sign.f k1 a1).bind fun t247 => ((columbariumref16_Sign.f k1 a1).bind fun t248 => (if t247 = t248 then (if ((bt236.2 == 0) == (decide ((ji58) ≤ 2000))) = true then (if bt236.2 = bt243.2 then (if bt236.2 = 0 then (some true) else (some (bt236.2 == 2))) else (none)) else (none)) else (none)))) else (none)))) else (none)) else (none)) = some r := by first | (rw [hji58] at H; exact H) | (simp only [hji58] at H ⊢; exact H)
                  (try rw [hji58] at A57)
                  have hji58w : (IntKind.i64.wrap (1998 + t232)) = ji58 := (i64_w _).trans hji58
                  by_cases c59 : 0 ≤ (ji58)
                  · rw [if_pos c59] at H
                    have c59b0 := eq_true c59
                    have c59b1 : decide (0 ≤ (ji58)) = true := decide_eq_true c59
                    clear c59
                    by_cases c60 : (ji58 : Int).toNat ≤ 281474976710656
                    · rw [if_pos c60] at H
                      have c60b0 := eq_true c60
                      have c60b1 : decide ((ji58 : Int).toNat ≤ 281474976710656) = true := decide_eq_true c60
                      clear c60
                      obtain ⟨y233, hy233⟩ : ∃ y_ : List Int, y_ = (List.replicate (ji58 : Int).toNat 0) := ⟨_, rfl⟩
                      replace H : ((words_Split.f (strOfNums y233)).bind fun bt236 => ((words_Set.f (strOfNums (List.replicate (ji58 : Int).toNat 0))).bind fun bt243 => (if t199 = true then ((words_Sign.f k1 a1).bind fun t247 => ((columbariumref16_Sign.f k1 a1).bind fun t248 => (if t247 = t248 then (if ((bt236.2 == 0) == (decide ((ji58) ≤ 2000))) = true then (if bt236.2 = bt243.2 then (if bt236.2 = 0 then (some true) else (some (bt236.2 == 2))) else (none)) else (none)) else (none)))) else (none)))) = some r := by first | (rw [hy233]; with_reducible exact H) | (have H2_ := (Option.bind_some _ _).symm.trans H; rw [hy233]; with_reducible exact H2_) | (have H2_ := (Option.bind_some _ _).symm.trans H; with_reducible exact H2_) | with_reducible exact H | (rw [hy233]; exact H) | exact H
                      have Ny233 := Aside0.mk hy233
                      clear hy233
                      replace H := Option.bind_eq_some_iff.mp H
                      obtain ⟨⟨t236, t239⟩, A610, H⟩ := H
                      replace H : ((words_Set.f (strOfNums (List.replicate (ji58 : Int).toNat 0))).bind fun bt243 => (if t199 = true then ((words_Sign.f k1 a1).bind fun t247 => ((columbariumref16_Sign.f k1 a1).bind fun t248 => (if t247 = t248 then (if ((t239 == 0) == (decide ((ji58) ≤ 2000))) = true then (if t239 = bt243.2 then (if t239 = 0 then (some true) else (some (t239 == 2))) else (none)) else (none)) else (none)))) else (none))) = some r := H
                      have A61 := Aside0.mk A610
                      clear A610
                      obtain ⟨y240, hy240⟩ : ∃ y_ : List Int, y_ = (List.replicate (ji58 : Int).toNat 0) := ⟨_, rfl⟩
                      replace H : ((words_Set.f (strOfNums y240)).bind fun bt243 => (if t199 = true then ((words_Sign.f k1 a1).bind fun t247 => ((columbariumref16_Sign.f k1 a1).bind fun t248 => (if t247 = t248 then (if ((t239 == 0) == (decide ((ji58) ≤ 2000))) = true then (if t239 = bt243.2 then (if t239 = 0 then (some true) else (some (t239 == 2))) else (none)) else (none)) else (none)))) else (none))) = some r := by first | (rw [hy240]; with_reducible exact H) | (have H2_ := (Option.bind_some _ _).symm.trans H; rw [hy240]; with_reducible exact H2_) | (have H2_ := (Option.bind_some _ _).symm.trans H; with_reducible exact H2_) | with_reducible exact H | (rw [hy240]; exact H) | exact H
                      have Ny240 := Aside0.mk hy240
                      clear hy240
                      replace H := Option.bind_eq_some_iff.mp H
                      obtain ⟨⟨t243, t246⟩, A620, H⟩ := H
                      replace H : (if t199 = true then ((words_Sign.f k1 a1).bind fun t247 => ((columbariumref16_Sign.f k1 a1).bind fun t248 => (if t247 = t248 then (if ((t239 == 0) == (decide ((ji58) ≤ 2000))) = true then (if t239 = t246 then (if t239 = 0 then (some true) else (some (t239 == 2))) else (none)) else (none)) else (none)))) else (none)) = some r := H
                      have A62 := Aside0.mk A620
                      clear A620
                      by_cases c63 : t199 = true
                      · subst c63
                        have H1 : ((words_Sign.f k1 a1).bind fun t247 => ((columbariumref16_Sign.f k1 a1).bind fun t248 => (if t247 = t248 then (if ((t239 == 0) == (decide ((ji58) ≤ 2000))) = true then (if t239 = t246 then (if t239 = 0 then (some true) else (some (t239 == 2))) else (none)) else (none)) else (none)))) = some r := by rw [if_pos rfl] at H; exact H
                        clear H
                        have H := H1
                        clear H1
                        replace H := Option.bind_eq_some_iff.mp H
                        obtain ⟨t247, A640, H⟩ := H
                        replace H : ((columbariumref16_Sign.f k1 a1).bind fun t248 => (if t247 = t248 then (if ((t239 == 0) == (decide ((ji58) ≤ 2000))) = true then (if t239 = t246 then (if t239 = 0 then (some true) else (some (t239 == 2))) else (none)) else (none)) else (none))) = some r := H
                        have A64 := Aside0.mk A640
                        clear A640
                        replace H := Option.bind_eq_some_iff.mp H
                        obtain ⟨t248, A650, H⟩ := H
                        replace H : (if t247 = t248 then (if ((t239 == 0) == (decide ((ji58) ≤ 2000))) = true then (if t239 = t246 then (if t239 = 0 then (some true) else (some (t239 == 2))) else (none)) else (none)) else (none)) = some r := H
                        have A65 := Aside0.mk A650
                        clear A650
                        by_cases c66 : t247 = t248
                        · rw [if_pos c66] at H
                          have c66b0 : (t247 == t248) = true := beq_iff_eq.mpr c66
                          have c66b1 : (t247 != t248) = false := bne_eq_false_iff_eq.mpr c66
                          clear c66
                          by_cases c67 : ((t239 == 0) == (decide ((ji58) ≤ 2000))) = true
                          · rw [if_pos c67] at H
                            have c67b0 : ((t239 == 0) == (decide ((ji58) ≤ 2000))) = true := c67
                            (try (have c67b1 : decide ((t239 == 0) = (decide ((ji58) ≤ 2000))) = true := by simpa using c67))
                            (try (have c67b2 : ((t239 == 0) == (decide ((ji58) ≤ 2000))) = true := by simpa using c67))
                            clear c67
                            by_cases c68 : t239 = t246
                            · rw [if_pos c68] at H
                              have c68b0 : (t239 == t246) = true := beq_iff_eq.mpr c68
                              have c68b1 : (t239 != t246) = false := bne_eq_false_iff_eq.mpr c68
                              clear c68
                              by_cases c69 : t239 = 0
                              · rw [if_pos c69] at H
                                have c69b0 : (t239 == 0) = true := beq_iff_eq.mpr c69
                                have c69b1 : (t239 != 0) = false := bne_eq_false_iff_eq.mpr c69
                                clear c69
                                obtain rfl := Option.some.inj H
                                go_wp2_with (first | ((with_reducible refine gate_callee (f := 18) rfl ?_); refine goesL_ (some 122) rfl rfl Try.func18 (by kernel_rfl) rfl #[.int .i64 a3, .int .i64 5] rfl (by (try simp only [List.map_toArray, List.map_cons, List.map_nil]); first | done | rfl | (simp only [List.length_drop, List.length_take]; rfl)) ?_; (with_reducible refine (columbariumlaw16_pick.calls a3 5 t232 _ A57.out).mono ?_); rintro e w' ⟨rfl, ⟨nd, rfl⟩⟩; refine ⟨_, rfl, ?_⟩) | ((with_reducible refine gate_dst (N := 126) rfl ?_); refine Kd.R_make (Kd.int .u8) _ 5 rfl (N := 126) rfl 33 _ _ rfl ji58 rfl rfl Try.underlying33 (.int .u8 0) 1 info5 rfl (by decide) (by omega) 0 (ok := fun _ => True) (okp := fun _ => True) rfl (fun _ hk => hk) trivial (of_decide_eq_true (by first | (with_reducible assumption) | assumption)) (Nat.le_trans (Nat.mul_le_mul_right _ (of_decide_eq_true (by first | (with_reducible assumption) | assumption) : ji58.toNat ≤ 281474976710656)) (by omega)) (Below.refl _ _) (Nat.le_refl _) ?_; intro v234 w70 ho71 hb hg_ hnew_; clear hg_ hnew_; (first | rw [← Ny233.out] at ho71 | (simp only [Int.reduceToNat] at ho71; rw [← Ny233.out] at ho71)); have n0_ := Aside0.mk (Kd.R_below (by (with_reducible repeat (first | apply Kd.R_alloc | apply Kd.R_drewN | apply Kd.R_drew)); exact HO_46.out) hb); have n1_ := Aside0.mk (Kd.R_lower ho71 (below_size (by repeat (first | (with_reducible first | exact HB.out | apply below_alloc | apply pw_below_drewN | apply below_drew1) | exact HB.out)))); have n2_ := Aside0.mk (below_step (by repeat (first | (with_reducible first | exact HB.out | apply below_alloc | apply pw_below_drewN | apply below_drew1) | exact HB.out)) hb); clear HO_46; clear HB; have HO_46 := n0_; have HO235 := n1_; have HB := n2_; clear n0_ n1_ n2_; clear hb ho71; have hcv72 := own_string (P := Try.prog) Try.underlying33 Try.underlying5 Try.underlying9 (Kd.own_of_R HO235.out)) | ((with_reducible refine gate_callee (f := 11) rfl ?_); refine goesL_ (some 128) rfl rfl Try.func11 (by kernel_rfl) rfl #[.string (strOfNums y233)] rfl (by (try simp only [List.map_toArray, List.map_cons, List.map_nil]); first | done | rfl | (simp only [List.length_drop, List.length_take]; rfl)) ?_; (with_reducible refine (words_Split.calls (strOfNums y233) t236 t239 _ A61.out).mono ?_); rintro e w73 ⟨v237, rfl, ho0, hb⟩; refine ⟨_, rfl, ?_⟩; have n0_ := Aside0.mk (Kd.R_below (by (with_reducible repeat (first | apply Kd.R_alloc | apply Kd.R_drewN | apply Kd.R_drew)); exact HO_46.out) hb); have n1_ := Aside0.mk (Kd.R_below (by (with_reducible repeat (first | apply Kd.R_alloc | apply Kd.R_drewN | apply Kd.R_drew)); exact HO235.out) hb); have n2_ := Aside0.mk (Kd.V_lower (Kd.V_mono (ok' := fun k_ => some k_ ≠ (.slice Ao23 y204.length co23 : Value).ownBlock ∧ some k_ ≠ (v234 : Value).ownBlock) ho0 (fun k_ hk_ => ⟨(Kd.fresh' (Kd.R_lt (by (with_reducible repeat (first | apply Kd.R_alloc | apply Kd.R_drewN | apply Kd.R_drew)); exact HO_46.out)) k_ hk_), (Kd.fresh' (Kd.R_lt (by (with_reducible repeat (first | apply Kd.R_alloc | apply Kd.R_drewN | apply Kd.R_drew)); exact HO235.out)) k_ hk_)⟩)) (below_size (by repeat (first | (with_reducible first | exact HB.out | apply below_alloc | apply pw_below_drewN | apply below_drew1) | exact HB.out)))); have n3_ := Aside0.mk (below_step (by repeat (first | (with_reducible first | exact HB.out | apply below_alloc | apply pw_below_drewN | apply below_drew1) | exact HB.out)) hb); clear HO_46; clear HO235; clear HB; have HO_46 := n0_; have HO235 := n1_; have HO238 := n2_; have HB := n3_; clear n0_ n1_ n2_ n3_; (try clear hb); (try clear hb2); (try clear hk); (try clear hi); (try clear ho0)) | ((with_reducible refine gate_dst (N := 133) rfl ?_); refine Kd.R_make (Kd.int .u8) _ 5 rfl (N := 133) rfl 33 _ _ rfl ji58 rfl rfl Try.underlying33 (.int .u8 0) 1 info5 rfl (by decide) (by omega) 0 (ok := fun _ => True) (okp := fun _ => True) rfl (fun _ hk => hk) trivial (of_decide_eq_true (by first | (with_reducible assumption) | assumption)) (Nat.le_trans (Nat.mul_le_mul_right _ (of_decide_eq_true (by first | (with_reducible assumption) | assumption) : ji58.toNat ≤ 281474976710656)) (by omega)) (Below.refl _ _) (Nat.le_refl _) ?_; intro v241 w74 ho75 hb hg_ hnew_; clear hg_ hnew_; (first | rw [← Ny240.out] at ho75 | (simp only [Int.reduceToNat] at ho75; rw [← Ny240.out] at ho75)); have n0_ := Aside0.mk (Kd.R_below (by (with_reducible repeat (first | apply Kd.R_alloc | apply Kd.R_drewN | apply Kd.R_drew)); exact HO_46.out) hb); have n1_ := Aside0.mk (Kd.R_elder' (by (with_reducible repeat (first | apply Kd.R_alloc | apply Kd.R_drewN | apply Kd.R_drew)); exact HO235.out) (Kd.R_base ho75) hb); have n2_ := Aside0.mk (Kd.V_elder' (by (with_reducible repeat (first | apply Kd.V_alloc | apply Kd.V_drewN | apply Kd.V_drew)); exact HO238.out) (Kd.R_base ho75) hb); have n3_ := Aside0.mk (Kd.R_lower (Kd.R_new' ho75 (Kd.R_lt (by (with_reducible repeat (first | apply Kd.R_alloc | apply Kd.R_drewN | apply Kd.R_drew)); exact HO235.out))) (below_size (by repeat (first | (with_reducible first | exact HB.out | apply below_alloc | apply pw_below_drewN | apply below_drew1) | exact HB.out)))); have n4_ := Aside0.mk (below_step (by repeat (first | (with_reducible first | exact HB.out | apply below_alloc | apply pw_below_drewN | apply below_drew1) | exact HB.out)) hb); clear HO_46; clear HO235; clear HO238; clear HB; have HO_46 := n0_; have HO235 := n1_; have HO238 := n2_; have HO242 := n3_; have HB := n4_; clear n0_ n1_ n2_ n3_ n4_; clear hb ho75; have hcv76 := own_string (P := Try.prog) Try.underlying33 Try.underlying5 Try.underlying9 (Kd.own_of_R HO242.out)) | ((with_reducible refine gate_callee (f := 13) rfl ?_); refine goesL_ (some 135) rfl rfl Try.func13 (by kernel_rfl) rfl #[.string (strOfNums y240)] rfl (by (try simp only [List.map_toArray, List.map_cons, List.map_nil]); first | done | rfl | (simp only [List.length_drop, List.length_take]; rfl)) ?_; (with_reducible refine (words_Set.calls (strOfNums y240) t243 t246 _ A62.out).mono ?_); rintro e w77 ⟨v244, rfl, ho0, hb⟩; refine ⟨_, rfl, ?_⟩; have n0_ := Aside0.mk (Kd.R_below (by (with_reducible repeat (first | apply Kd.R_alloc | apply Kd.R_drewN | apply Kd.R_drew)); exact HO_46.out) hb); have n1_ := Aside0.mk (Kd.R_below (by (with_reducible repeat (first | apply Kd.R_alloc | apply Kd.R_drewN | apply Kd.R_drew)); exact HO235.out) hb); have n2_ := Aside0.mk (Kd.V_below (by (with_reducible repeat (first | apply Kd.V_alloc | apply Kd.V_drewN | apply Kd.V_drew)); exact HO238.out) hb); have n3_ := Aside0.mk (Kd.R_below (by (with_reducible repeat (first | apply Kd.R_alloc | apply Kd.R_drewN | apply Kd.R_drew)); exact HO242.out) hb); have n4_ := Aside0.mk (Kd.V_lower (Kd.V_mono (ok' := fun k_ => some k_ ≠ (.slice Ao23 y204.length co23 : Value).ownBlock ∧ some k_ ≠ (v234 : Value).ownBlock ∧ some k_ ≠ (v241 : Value).ownBlock) ho0 (fun k_ hk_ => ⟨(Kd.fresh' (Kd.R_lt (by (with_reducible repeat (first | apply Kd.R_alloc | apply Kd.R_drewN | apply Kd.R_drew)); exact HO_46.out)) k_ hk_), (Kd.fresh' (Kd.R_lt (by (with_reducible repeat (first | apply Kd.R_alloc | apply Kd.R_drewN | apply Kd.R_drew)); exact HO235.out)) k_ hk_), (Kd.fresh' (Kd.R_lt (by (with_reducible repeat (first | apply Kd.R_alloc | apply Kd.R_drewN | apply Kd.R_drew)); exact HO242.out)) k_ hk_)⟩)) (below_size (by repeat (first | (with_reducible first | exact HB.out | apply below_alloc | apply pw_below_drewN | apply below_drew1) | exact HB.out)))); have n5_ := Aside0.mk (below_step (by repeat (first | (with_reducible first | exact HB.out | apply below_alloc | apply pw_below_drewN | apply below_drew1) | exact HB.out)) hb); clear HO_46; clear HO235; clear HO238; clear HO242; clear HB; have HO_46 := n0_; have HO235 := n1_; have HO238 := n2_; have HO242 := n3_; have HO245 := n4_; have HB := n5_; clear n0_ n1_ n2_ n3_ n4_ n5_; (try clear hb); (try clear hb2); (try clear hk); (try clear hi); (try clear ho0)) | (go_at_call 19; (with_reducible refine (words_Sign.calls k1 a1 t247 _ A64.out).mono ?_); rintro e w' ⟨rfl, ⟨nd, rfl⟩⟩) | (go_at_call 20; (with_reducible refine (columbariumref16_Sign.calls k1 a1 t248 _ A65.out).mono ?_); rintro e w' ⟨rfl, ⟨nd, rfl⟩⟩))
                                all_goals first | (go_ret; exact ⟨by first | rfl | (simp [errW_none, errW_some] <;> rfl) | (simp only [← hji6, ← hji58]; first | rfl | (simp [errW_none, errW_some] <;> rfl)) | (simp [*, errW_none, errW_some] <;> rfl) | (refine congrArg (fun b_ => Ending.returned (Value.bool b_)) (decide_eq_decide.mpr ?_); simp only [← hji58, ← hji6, mx, mn]; (repeat' split) <;> omega), by repeat (first | (with_reducible first | exact HB.out | apply below_alloc | apply pw_below_drewN | apply below_drew1) | exact HB.out)⟩) | (exfalso; rename_i h_; first | (have h2_ := Int.not_le.mpr h_; simp_all; done) | (simp_all; done) | (simp_all; omega))
                              · rw [if_neg c69] at H
                                have c69b0 : (t239 == 0) = false := beq_eq_false_iff_ne.mpr c69
                                have c69b1 : (t239 != 0) = true := bne_iff_ne.mpr c69
                                obtain rfl := Option.some.inj H
                                go_wp2_with (first | ((with_reducible refine gate_callee (f := 18) rfl ?_); refine goesL_ (some 122) rfl rfl Try.func18 (by kernel_rfl) rfl #[.int .i64 a3, .int .i64 5] rfl (by (try simp only [List.map_toArray, List.map_cons, List.map_nil]); first | done | rfl | (simp only [List.length_drop, List.length_take]; rfl)) ?_; (with_reducible refine (columbariumlaw16_pick.calls a3 5 t232 _ A57.out).mono ?_); rintro e w' ⟨rfl, ⟨nd, rfl⟩⟩; refine ⟨_, rfl, ?_⟩) | ((with_reducible refine gate_dst (N := 126) rfl ?_); refine Kd.R_make (Kd.int .u8) _ 5 rfl (N := 126) rfl 33 _ _ rfl ji58 rfl rfl Try.underlying33 (.int .u8 0) 1 info5 rfl (by decide) (by omega) 0 (ok := fun _ => True) (okp := fun _ => True) rfl (fun _ hk => hk) trivial (of_decide_eq_true (by first | (with_reducible assumption) | assumption)) (Nat.le_trans (Nat.mul_le_mul_right _ (of_decide_eq_true (by first | (with_reducible assumption) | assumption) : ji58.toNat ≤ 281474976710656)) (by omega)) (Below.refl _ _) (Nat.le_refl _) ?_; intro v234 w78 ho79 hb hg_ hnew_; clear hg_ hnew_; (first | rw [← Ny233.out] at ho79 | (simp only [Int.reduceToNat] at ho79; rw [← Ny233.out] at ho79)); have n0_ := Aside0.mk (Kd.R_below (by (with_reducible repeat (first | apply Kd.R_alloc | apply Kd.R_drewN | apply Kd.R_drew)); exact HO_46.out) hb); have n1_ := Aside0.mk (Kd.R_lower ho79 (below_size (by repeat (first | (with_reducible first | exact HB.out | apply below_alloc | apply pw_below_drewN | apply below_drew1) | exact HB.out)))); have n2_ := Aside0.mk (below_step (by repeat (first | (with_reducible first | exact HB.out | apply below_alloc | apply pw_below_drewN | apply below_drew1) | exact HB.out)) hb); clear HO_46; clear HB; have HO_46 := n0_; have HO235 := n1_; have HB := n2_; clear n0_ n1_ n2_; clear hb ho79; have hcv80 := own_string (P := Try.prog) Try.underlying33 Try.underlying5 Try.underlying9 (Kd.own_of_R HO235.out)) | ((with_reducible refine gate_callee (f := 11) rfl ?_); refine goesL_ (some 128) rfl rfl Try.func11 (by kernel_rfl) rfl #[.string (strOfNums y233)] rfl (by (try simp only [List.map_toArray, List.map_cons, List.map_nil]); first | done | rfl | (simp only [List.length_drop, List.length_take]; rfl)) ?_; (with_reducible refine (words_Split.calls (strOfNums y233) t236 t239 _ A61.out).mono ?_); rintro e w81 ⟨v237, rfl, ho0, hb⟩; refine ⟨_, rfl, ?_⟩; have n0_ := Aside0.mk (Kd.R_below (by (with_reducible repeat (first | apply Kd.R_alloc | apply Kd.R_drewN | apply Kd.R_drew)); exact HO_46.out) hb); have n1_ := Aside0.mk (Kd.R_below (by (with_reducible repeat (first | apply Kd.R_alloc | apply Kd.R_drewN | apply Kd.R_drew)); exact HO235.out) hb); have n2_ := Aside0.mk (Kd.V_lower (Kd.V_mono (ok' := fun k_ => some k_ ≠ (.slice Ao23 y204.length co23 : Value).ownBlock ∧ some k_ ≠ (v234 : Value).ownBlock) ho0 (fun k_ hk_ => ⟨(Kd.fresh' (Kd.R_lt (by (with_reducible repeat (first | apply Kd.R_alloc | apply Kd.R_drewN | apply Kd.R_drew)); exact HO_46.out)) k_ hk_), (Kd.fresh' (Kd.R_lt (by (with_reducible repeat (first | apply Kd.R_alloc | apply Kd.R_drewN | apply Kd.R_drew)); exact HO235.out)) k_ hk_)⟩)) (below_size (by repeat (first | (with_reducible first | exact HB.out | apply below_alloc | apply pw_below_drewN | apply below_drew1) | exact HB.out)))); have n3_ := Aside0.mk (below_step (by repeat (first | (with_reducible first | exact HB.out | apply below_alloc | apply pw_below_drewN | apply below_drew1) | exact HB.out)) hb); clear HO_46; clear HO235; clear HB; have HO_46 := n0_; have HO235 := n1_; have HO238 := n2_; have HB := n3_; clear n0_ n1_ n2_ n3_; (try clear hb); (try clear hb2); (try clear hk); (try clear hi); (try clear ho0)) | ((with_reducible refine gate_dst (N := 133) rfl ?_); refine Kd.R_make (Kd.int .u8) _ 5 rfl (N := 133) rfl 33 _ _ rfl ji58 rfl rfl Try.underlying33 (.int .u8 0) 1 info5 rfl (by decide) (by omega) 0 (ok := fun _ => True) (okp := fun _ => True) rfl (fun _ hk => hk) trivial (of_decide_eq_true (by first | (with_reducible assumption) | assumption)) (Nat.le_trans (Nat.mul_le_mul_right _ (of_decide_eq_true (by first | (with_reducible assumption) | assumption) : ji58.toNat ≤ 281474976710656)) (by omega)) (Below.refl _ _) (Nat.le_refl _) ?_; intro v241 w82 ho83 hb hg_ hnew_; clear hg_ hnew_; (first | rw [← Ny240.out] at ho83 | (simp only [Int.reduceToNat] at ho83; rw [← Ny240.out] at ho83)); have n0_ := Aside0.mk (Kd.R_below (by (with_reducible repeat (first | apply Kd.R_alloc | apply Kd.R_drewN | apply Kd.R_drew)); exact HO_46.out) hb); have n1_ := Aside0.mk (Kd.R_elder' (by (with_reducible repeat (first | apply Kd.R_alloc | apply Kd.R_drewN | apply Kd.R_drew)); exact HO235.out) (Kd.R_base ho83) hb); have n2_ := Aside0.mk (Kd.V_elder' (by (with_reducible repeat (first | apply Kd.V_alloc | apply Kd.V_drewN | apply Kd.V_drew)); exact HO238.out) (Kd.R_base ho83) hb); have n3_ := Aside0.mk (Kd.R_lower (Kd.R_new' ho83 (Kd.R_lt (by (with_reducible repeat (first | apply Kd.R_alloc | apply Kd.R_drewN | apply Kd.R_drew)); exact HO235.out))) (below_size (by repeat (first | (with_reducible first | exact HB.out | apply below_alloc | apply pw_below_drewN | apply below_drew1) | exact HB.out)))); have n4_ := Aside0.mk (below_step (by repeat (first | (with_reducible first | exact HB.out | apply below_alloc | apply pw_below_drewN | apply below_drew1) | exact HB.out)) hb); clear HO_46; clear HO235; clear HO238; clear HB; have HO_46 := n0_; have HO235 := n1_; have HO238 := n2_; have HO242 := n3_; have HB := n4_; clear n0_ n1_ n2_ n3_ n4_; clear hb ho83; have hcv84 := own_string (P := Try.prog) Try.underlying33 Try.underlying5 Try.underlying9 (Kd.own_of_R HO242.out)) | ((with_reducible refine gate_callee (f := 13) rfl ?_); refine goesL_ (some 135) rfl rfl Try.func13 (by kernel_rfl) rfl #[.string (strOfNums y240)] rfl (by (try simp only [List.map_toArray, List.map_cons, List.map_nil]); first | done | rfl | (simp only [List.length_drop, List.length_take]; rfl)) ?_; (with_reducible refine (words_Set.calls (strOfNums y240) t243 t246 _ A62.out).mono ?_); rintro e w85 ⟨v244, rfl, ho0, hb⟩; refine ⟨_, rfl, ?_⟩; have n0_ := Aside0.mk (Kd.R_below (by (with_reducible repeat (first | apply Kd.R_alloc | apply Kd.R_drewN | apply Kd.R_drew)); exact HO_46.out) hb); have n1_ := Aside0.mk (Kd.R_below (by (with_reducible repeat (first | apply Kd.R_alloc | apply Kd.R_drewN | apply Kd.R_drew)); exact HO235.out) hb); have n2_ := Aside0.mk (Kd.V_below (by (with_reducible repeat (first | apply Kd.V_alloc | apply Kd.V_drewN | apply Kd.V_drew)); exact HO238.out) hb); have n3_ := Aside0.mk (Kd.R_below (by (with_reducible repeat (first | apply Kd.R_alloc | apply Kd.R_drewN | apply Kd.R_drew)); exact HO242.out) hb); have n4_ := Aside0.mk (Kd.V_lower (Kd.V_mono (ok' := fun k_ => some k_ ≠ (.slice Ao23 y204.length co23 : Value).ownBlock ∧ some k_ ≠ (v234 : Value).ownBlock ∧ some k_ ≠ (v241 : Value).ownBlock) ho0 (fun k_ hk_ => ⟨(Kd.fresh' (Kd.R_lt (by (with_reducible repeat (first | apply Kd.R_alloc | apply Kd.R_drewN | apply Kd.R_drew)); exact HO_46.out)) k_ hk_), (Kd.fresh' (Kd.R_lt (by (with_reducible repeat (first | apply Kd.R_alloc | apply Kd.R_drewN | apply Kd.R_drew)); exact HO235.out)) k_ hk_), (Kd.fresh' (Kd.R_lt (by (with_reducible repeat (first | apply Kd.R_alloc | apply Kd.R_drewN | apply Kd.R_drew)); exact HO242.out)) k_ hk_)⟩)) (below_size (by repeat (first | (with_reducible first | exact HB.out | apply below_alloc | apply pw_below_drewN | apply below_drew1) | exact HB.out)))); have n5_ := Aside0.mk (below_step (by repeat (first | (with_reducible first | exact HB.out | apply below_alloc | apply pw_below_drewN | apply below_drew1) | exact HB.out)) hb); clear HO_46; clear HO235; clear HO238; clear HO242; clear HB; have HO_46 := n0_; have HO235 := n1_; have HO238 := n2_; have HO242 := n3_; have HO245 := n4_; have HB := n5_; clear n0_ n1_ n2_ n3_ n4_ n5_; (try clear hb); (try clear hb2); (try clear hk); (try clear hi); (try clear ho0)) | (go_at_call 19; (with_reducible refine (words_Sign.calls k1 a1 t247 _ A64.out).mono ?_); rintro e w' ⟨rfl, ⟨nd, rfl⟩⟩) | (go_at_call 20; (with_reducible refine (columbariumref16_Sign.calls k1 a1 t248 _ A65.out).mono ?_); rintro e w' ⟨rfl, ⟨nd, rfl⟩⟩))
                                all_goals first | (go_ret; exact ⟨by first | rfl | (simp [errW_none, errW_some] <;> rfl) | (simp only [← hji6, ← hji58]; first | rfl | (simp [errW_none, errW_some] <;> rfl)) | (simp [*, errW_none, errW_some] <;> rfl) | (refine congrArg (fun b_ => Ending.returned (Value.bool b_)) (decide_eq_decide.mpr ?_); simp only [← hji58, ← hji6, mx, mn]; (repeat' split) <;> omega), by repeat (first | (with_reducible first | exact HB.out | apply below_alloc | apply pw_below_drewN | apply below_drew1) | exact HB.out)⟩) | (exfalso; rename_i h_; first | (have h2_ := Int.not_le.mpr h_; simp_all; done) | (simp_all; done) | (simp_all; omega))
                            · rw [if_neg c68] at H
                              exact absurd H (by simp)
                          · rw [if_neg c67] at H
                            exact absurd H (by simp)
                        · rw [if_neg c66] at H
                          exact absurd H (by simp)
                      · replace c63 := Bool.eq_false_iff.mpr c63
                        subst c63
                        have H1 : (none) = some r := by rw [if_neg (show ¬ (false = true) by decide)] at H; exact H
                        clear H
                        have H := H1
                        clear H1
                        exact absurd H (by simp)
                    · rw [if_neg c60] at H
                      exact absurd H (by simp)
                  · rw [if_neg c59] at H
                    exact absurd H (by simp)
          · rw [if_neg c15] at H
            exact absurd H (by simp)
        · rw [if_neg c13] at H
          exact absurd H (by simp)
      · rw [if_neg c11] at H
        exact absurd H (by simp)
    · rw [if_neg c8] at H
      exact absurd H (by simp)
  · rw [if_neg c7] at H
    exact absurd H (by simp)

end Go.Proofs.Ytpmjnggkhjjiaaa.A
