-- Written by program (this session's myprint.py over the kit's print.py). Not trusted: Lean checks it.
import Derived.Test.YtmddhiokioojlaaAx0
import Derived.Test.YtmddhiokioojlaaAx2
import Derived.Test.YtmddhiokioojlaaAx5
import Derived.Test.YtmddhiokioojlaaAx7
import Derived.Test.YtmddhiokioojlaaAx8
import Derived.Test.YtmddhiokioojlaaHand
namespace Go.Proofs.Ytmddhiokioojlaa.A
open Go.RowKit Go.Proofs.YtmddhiokioojlaaW.PrintWords Go.Proofs.YtmddhiokioojlaaW.PrintLast Go.Proofs.YtmddhiokioojlaaW.PrintMore
attribute [local go_sem] max2_int min2_int max_two min_two max_three min_three max_four min_four   -- for this text's walks alone
set_option linter.unusedVariables false
set_option linter.unusedSimpArgs false

/-! ### columbariumlaw10_CodecOne: function 5 -/
def columbariumlaw10_CodecOne.l0 : Nat → Bool → List ByteArray → Int → Int → Option (Bool)
  | 0, _, _, _, _ => none
  | k + 1, x9, x59, x60, x61 => if x61 < x60 then (if 0 ≤ x61 then (if x61 < (x59.length : Int) then ((codec_TakeList.f k (rdOf ByteArray.empty x59 x61) 0).bind fun bt346 => (if bt346.2.2.2 = 0 then ((codec_List.f bt346.1).bind fun bt353 => (if bt346.2.2.1 < 4 then (none) else (if bt346.2.2.1 > ((rdOf ByteArray.empty x59 x61).size : Int) then (none) else (if 0 ≤ (wrap64 (bt346.2.2.1 - 1)) then (if (wrap64 (bt346.2.2.1 - 1)) ≤ ((rdOf ByteArray.empty x59 x61).size : Int) then ((codec_TakeList.f k ((rdOf ByteArray.empty x59 x61).extract 0 ((wrap64 (bt346.2.2.1 - 1)) : Int).toNat) 0).bind fun bt355 => (if bt353.2 = 0 then (if 0 ≤ bt346.2.2.1 then (if bt346.2.2.1 ≤ ((rdOf ByteArray.empty x59 x61).size : Int) then (if bt353.1.toList = ((rdOf ByteArray.empty x59 x61).extract 0 (bt346.2.2.1 : Int).toNat).toList then (if bt355.2.2.2 = 10 then (if bt355.2.2.1 = 0 then ((codec_TakeText.f k (rdOf ByteArray.empty x59 x61) 0).bind fun bt362 => (if bt362.2.2.2 = 0 then ((codec_Text.f bt362.1).bind fun bt366 => (if bt366.2 = 0 then (if bt362.2.2.1 > ((rdOf ByteArray.empty x59 x61).size : Int) then (none) else (if 0 ≤ bt362.2.2.1 then (if bt362.2.2.1 ≤ ((rdOf ByteArray.empty x59 x61).size : Int) then (if bt366.1.toList = ((rdOf ByteArray.empty x59 x61).extract 0 (bt362.2.2.1 : Int).toNat).toList then (columbariumlaw10_CodecOne.l0 k x9 x59 x60 (wrap64 (x61 + 1))) else (none)) else (none)) else (none))) else (none))) else (columbariumlaw10_CodecOne.l0 k x9 x59 x60 (wrap64 (x61 + 1))))) else (none)) else (none)) else (none)) else (none)) else (none)) else (none))) else (none)) else (none))))) else ((codec_TakeText.f k (rdOf ByteArray.empty x59 x61) 0).bind fun bt368 => (if bt368.2.2.2 = 0 then ((codec_Text.f bt368.1).bind fun bt372 => (if bt372.2 = 0 then (if bt368.2.2.1 > ((rdOf ByteArray.empty x59 x61).size : Int) then (none) else (if 0 ≤ bt368.2.2.1 then (if bt368.2.2.1 ≤ ((rdOf ByteArray.empty x59 x61).size : Int) then (if bt372.1.toList = ((rdOf ByteArray.empty x59 x61).extract 0 (bt368.2.2.1 : Int).toNat).toList then (columbariumlaw10_CodecOne.l0 k x9 x59 x60 (wrap64 (x61 + 1))) else (none)) else (none)) else (none))) else (none))) else (columbariumlaw10_CodecOne.l0 k x9 x59 x60 (wrap64 (x61 + 1))))))) else (none)) else (none)) else (some x9)
def columbariumlaw10_CodecOne.f (k : Nat) (a0 : ByteArray) (l1 : List ByteArray) (a2 : Int) (a3 : ByteArray) : Option (Bool) := (columbariumlaw10_awake.f k).bind fun t335 => ((columbariumlaw10_Few.f k l1).bind fun t336 => ((codec_List.f t336).bind fun bt339 => (if bt339.2 = 0 then ((columbariumlaw10_pick.f a2 (wrap64 ((bt339.1.size : Int) + 1))).bind fun t341 => (if 0 ≤ (mn (a0.size : Int) 500) then (if (mn (a0.size : Int) 500) ≤ (a0.size : Int) then (if 0 ≤ t341 then (if t341 ≤ (bt339.1.size : Int) then (if 0 ≤ (mn (a3.size : Int) 20) then (if (mn (a3.size : Int) 20) ≤ (a3.size : Int) then (if (t341 : Int).toNat + ((mn (a3.size : Int) 20) : Int).toNat ≤ 9223372036854775807 then (if ((t341 : Int).toNat + ((mn (a3.size : Int) 20) : Int).toNat) + (bt339.1.size - (t341 : Int).toNat) ≤ 9223372036854775807 then ((some (([a0.extract 0 ((mn (a0.size : Int) 500) : Int).toNat, bt339.1, ((bt339.1.extract 0 (t341 : Int).toNat) ++ (a3.extract 0 ((mn (a3.size : Int) 20) : Int).toNat)) ++ (bt339.1.extract (t341 : Int).toNat bt339.1.size)] : List ByteArray) : List ByteArray)).bind fun y342 => (columbariumlaw10_CodecOne.l0 k t335 y342 (y342.length : Int) 0)) else (none)) else (none)) else (none)) else (none)) else (none)) else (none)) else (none)) else (none))) else (none))))
theorem columbariumlaw10_CodecOne.mono_l : ∀ k, (∀ y0 y1 y2 y3, LeO (columbariumlaw10_CodecOne.l0 k y0 y1 y2 y3) (columbariumlaw10_CodecOne.l0 (k + 1) y0 y1 y2 y3))
  | 0 => fun _ _ _ _ r h => by simp [columbariumlaw10_CodecOne.l0] at h
  | k + 1 => by
    have ih0 := columbariumlaw10_CodecOne.mono_l k
    · intro y0 y1 y2 y3
      unfold columbariumlaw10_CodecOne.l0
      repeat' first
      | (with_reducible exact ih0 _ _ _ _)
      | (with_reducible exact codec_TakeList.mono _ _ _)
      | (with_reducible exact codec_TakeText.mono _ _ _)
      | (with_reducible exact columbariumlaw10_Few.mono _ _)
      | (with_reducible exact columbariumlaw10_awake.mono _)
      | (with_reducible exact LeO.refl _)
      | (with_reducible exact LeO.none _)
      | (with_reducible refine LeO.ite ?_ ?_)
      | (with_reducible refine LeO.bind ?_ (fun _ => ?_))
      | exact ih0 _ _ _ _
      | exact codec_TakeList.mono _ _ _
      | exact codec_TakeText.mono _ _ _
      | exact columbariumlaw10_Few.mono _ _
      | exact columbariumlaw10_awake.mono _
      | exact LeO.none _
      | refine LeO.ite ?_ ?_
      | refine LeO.bind ?_ (fun _ => ?_)
theorem columbariumlaw10_CodecOne.mono : ∀ a0 a1 a2 a3 k, LeO (columbariumlaw10_CodecOne.f k a0 a1 a2 a3) (columbariumlaw10_CodecOne.f (k + 1) a0 a1 a2 a3) := by
  intro a0 a1 a2 a3 k
  have ih0 := columbariumlaw10_CodecOne.mono_l k
  unfold columbariumlaw10_CodecOne.f
  repeat' first
      | (with_reducible exact ih0 _ _ _ _)
      | (with_reducible exact codec_TakeList.mono _ _ _)
      | (with_reducible exact codec_TakeText.mono _ _ _)
      | (with_reducible exact columbariumlaw10_Few.mono _ _)
      | (with_reducible exact columbariumlaw10_awake.mono _)
      | (with_reducible exact LeO.refl _)
      | (with_reducible exact LeO.none _)
      | (with_reducible refine LeO.ite ?_ ?_)
      | (with_reducible refine LeO.bind ?_ (fun _ => ?_))
      | exact ih0 _ _ _ _
      | exact codec_TakeList.mono _ _ _
      | exact codec_TakeText.mono _ _ _
      | exact columbariumlaw10_Few.mono _ _
      | exact columbariumlaw10_awake.mono _
      | exact LeO.none _
      | refine LeO.ite ?_ ?_
      | refine LeO.bind ?_ (fun _ => ?_)
def columbariumlaw10_CodecOne.T6 : Bool × List (List Nat × List Nat) := (true, [([], []), ([], []), ([1], [1]), ([2], [2]), ([0, 3], [0, 3]), ([], []), ([], []), ([], []), ([6, 7], [6, 7]), ([], []), ([], []), ([10], [10]), ([11], [11]), ([9, 12], [9, 12]), ([8, 13], [8, 13]), ([], []), ([], []), ([15, 16], [15, 16]), ([14, 17], [14, 17]), ([4, 5, 18], [4, 5, 18]), ([19], [19]), ([], [])])
def columbariumlaw10_CodecOne.B6 : List Nat := [0, 0, 2, 6, 15, 0, 0, 0, 192, 0, 0, 1024, 3072, 7680, 16320, 0, 0, 98304, 262080, 524287, 1048575, 0]
theorem columbariumlaw10_CodecOne.tab6 : rtab .any (opsOf Try.f5 6) = columbariumlaw10_CodecOne.T6 := by kernel_rfl
theorem columbariumlaw10_CodecOne.bits6 : waitsOk columbariumlaw10_CodecOne.T6.2 columbariumlaw10_CodecOne.B6 = true := by kernel_rfl
set_option maxHeartbeats 8000000 in
set_option maxRecDepth 100000 in
theorem columbariumlaw10_CodecOne.calls (k : Nat) (a0 : ByteArray) (A1 : Option Addr) (c1 : Nat) (l1 : List ByteArray) (a2 : Int) (a3 : ByteArray) (r : Bool) (w : World) (hr1 : Kd.C Kd.string w A1 l1.length l1) (hc1 : l1.length ≤ c1) (h : columbariumlaw10_CodecOne.f k a0 l1 a2 a3 = some r) :
    Calls Try.prog 5 #[.string a0, .slice A1 l1.length c1, .int .i64 a2, .string a3] w fun e w' => e = .returned (.bool r) ∧ Below w.heap.size w w' := by
  have hu24 := Try.underlying24
  have HR1 := Aside0.mk hr1
  have HC1 := Aside0.mk hc1
  clear hr1 hc1
  have HB := Aside0.mk (Below.refl w.heap.size w)
  have H : ((columbariumlaw10_awake.f k).bind fun t335 => ((columbariumlaw10_Few.f k l1).bind fun t336 => ((codec_List.f t336).bind fun bt339 => (if bt339.2 = 0 then ((columbariumlaw10_pick.f a2 (wrap64 ((bt339.1.size : Int) + 1))).bind fun t341 => (if 0 ≤ (mn (a0.size : Int) 500) then (if (mn (a0.size : Int) 500) ≤ (a0.size : Int) then (if 0 ≤ t341 then (if t341 ≤ (bt339.1.size : Int) then (if 0 ≤ (mn (a3.size : Int) 20) then (if (mn (a3.size : Int) 20) ≤ (a3.size : Int) then (if (t341 : Int).toNat + ((mn (a3.size : Int) 20) : Int).toNat ≤ 9223372036854775807 then (if ((t341 : Int).toNat + ((mn (a3.size : Int) 20) : Int).toNat) + (bt339.1.size - (t341 : Int).toNat) ≤ 9223372036854775807 then ((some (([a0.extract 0 ((mn (a0.size : Int) 500) : Int).toNat, bt339.1, ((bt339.1.extract 0 (t341 : Int).toNat) ++ (a3.extract 0 ((mn (a3.size : Int) 20) : Int).toNat)) ++ (bt339.1.extract (t341 : Int).toNat bt339.1.size)] : List ByteArray) : List ByteArray)).bind fun y342 => (columbariumlaw10_CodecOne.l0 k t335 y342 (y342.length : Int) 0)) else (none)) else (none)) else (none)) else (none)) else (none)) else (none)) else (none)) else (none))) else (none))))) = some r := h
  clear h
  replace H := Option.bind_eq_some_iff.mp H
  obtain ⟨t335, A50, H⟩ := H
  replace H : ((columbariumlaw10_Few.f k l1).bind fun t336 => ((codec_List.f t336).bind fun bt339 => (if bt339.2 = 0 then ((columbariumlaw10_pick.f a2 (wrap64 ((bt339.1.size : Int) + 1))).bind fun t341 => (if 0 ≤ (mn (a0.size : Int) 500) then (if (mn (a0.size : Int) 500) ≤ (a0.size : Int) then (if 0 ≤ t341 then (if t341 ≤ (bt339.1.size : Int) then (if 0 ≤ (mn (a3.size : Int) 20) then (if (mn (a3.size : Int) 20) ≤ (a3.size : Int) then (if (t341 : Int).toNat + ((mn (a3.size : Int) 20) : Int).toNat ≤ 9223372036854775807 then (if ((t341 : Int).toNat + ((mn (a3.size : Int) 20) : Int).toNat) + (bt339.1.size - (t341 : Int).toNat) ≤ 9223372036854775807 then ((some (([a0.extract 0 ((mn (a0.size : Int) 500) : Int).toNat, bt339.1, ((bt339.1.extract 0 (t341 : Int).toNat) ++ (a3.extract 0 ((mn (a3.size : Int) 20) : Int).toNat)) ++ (bt339.1.extract (t341 : Int).toNat bt339.1.size)] : List ByteArray) : List ByteArray)).bind fun y342 => (columbariumlaw10_CodecOne.l0 k t335 y342 (y342.length : Int) 0)) else (none)) else (none)) else (none)) else (none)) else (none)) else (none)) else (none)) else (none))) else (none)))) = some r := H
  have A5 := Aside0.mk A50
  clear A50
  replace H := Option.bind_eq_some_iff.mp H
  obtain ⟨t336, A60, H⟩ := H
  replace H : ((codec_List.f t336).bind fun bt339 => (if bt339.2 = 0 then ((columbariumlaw10_pick.f a2 (wrap64 ((bt339.1.size : Int) + 1))).bind fun t341 => (if 0 ≤ (mn (a0.size : Int) 500) then (if (mn (a0.size : Int) 500) ≤ (a0.size : Int) then (if 0 ≤ t341 then (if t341 ≤ (bt339.1.size : Int) then (if 0 ≤ (mn (a3.size : Int) 20) then (if (mn (a3.size : Int) 20) ≤ (a3.size : Int) then (if (t341 : Int).toNat + ((mn (a3.size : Int) 20) : Int).toNat ≤ 9223372036854775807 then (if ((t341 : Int).toNat + ((mn (a3.size : Int) 20) : Int).toNat) + (bt339.1.size - (t341 : Int).toNat) ≤ 9223372036854775807 then ((some (([a0.extract 0 ((mn (a0.size : Int) 500) : Int).toNat, bt339.1, ((bt339.1.extract 0 (t341 : Int).toNat) ++ (a3.extract 0 ((mn (a3.size : Int) 20) : Int).toNat)) ++ (bt339.1.extract (t341 : Int).toNat bt339.1.size)] : List ByteArray) : List ByteArray)).bind fun y342 => (columbariumlaw10_CodecOne.l0 k t335 y342 (y342.length : Int) 0)) else (none)) else (none)) else (none)) else (none)) else (none)) else (none)) else (none)) else (none))) else (none))) = some r := H
  have A6 := Aside0.mk A60
  clear A60
  replace H := Option.bind_eq_some_iff.mp H
  obtain ⟨⟨t339, t340⟩, A70, H⟩ := H
  replace H : (if t340 = 0 then ((columbariumlaw10_pick.f a2 (wrap64 ((t339.size : Int) + 1))).bind fun t341 => (if 0 ≤ (mn (a0.size : Int) 500) then (if (mn (a0.size : Int) 500) ≤ (a0.size : Int) then (if 0 ≤ t341 then (if t341 ≤ (t339.size : Int) then (if 0 ≤ (mn (a3.size : Int) 20) then (if (mn (a3.size : Int) 20) ≤ (a3.size : Int) then (if (t341 : Int).toNat + ((mn (a3.size : Int) 20) : Int).toNat ≤ 9223372036854775807 then (if ((t341 : Int).toNat + ((mn (a3.size : Int) 20) : Int).toNat) + (t339.size - (t341 : Int).toNat) ≤ 9223372036854775807 then ((some (([a0.extract 0 ((mn (a0.size : Int) 500) : Int).toNat, t339, ((t339.extract 0 (t341 : Int).toNat) ++ (a3.extract 0 ((mn (a3.size : Int) 20) : Int).toNat)) ++ (t339.extract (t341 : Int).toNat t339.size)] : List ByteArray) : List ByteArray)).bind fun y342 => (columbariumlaw10_CodecOne.l0 k t335 y342 (y342.length : Int) 0)) else (none)) else (none)) else (none)) else (none)) else (none)) else (none)) else (none)) else (none))) else (none)) = some r := H
  have A7 := Aside0.mk A70
  clear A70
  by_cases c8 : t340 = 0
  · rw [if_pos c8] at H
    have c8b0 : (t340 == 0) = true := beq_iff_eq.mpr c8
    have c8b1 : (t340 != 0) = false := bne_eq_false_iff_eq.mpr c8
    clear c8
    replace H := Option.bind_eq_some_iff.mp H
    obtain ⟨t341, A90, H⟩ := H
    replace H : (if 0 ≤ (mn (a0.size : Int) 500) then (if (mn (a0.size : Int) 500) ≤ (a0.size : Int) then (if 0 ≤ t341 then (if t341 ≤ (t339.size : Int) then (if 0 ≤ (mn (a3.size : Int) 20) then (if (mn (a3.size : Int) 20) ≤ (a3.size : Int) then (if (t341 : Int).toNat + ((mn (a3.size : Int) 20) : Int).toNat ≤ 9223372036854775807 then (if ((t341 : Int).toNat + ((mn (a3.size : Int) 20) : Int).toNat) + (t339.size - (t341 : Int).toNat) ≤ 9223372036854775807 then ((some (([a0.extract 0 ((mn (a0.size : Int) 500) : Int).toNat, t339, ((t339.extract 0 (t341 : Int).toNat) ++ (a3.extract 0 ((mn (a3.size : Int) 20) : Int).toNat)) ++ (t339.extract (t341 : Int).toNat t339.size)] : List ByteArray) : List ByteArray)).bind fun y342 => (columbariumlaw10_CodecOne.l0 k t335 y342 (y342.length : Int) 0)) else (none)) else (none)) else (none)) else (none)) else (none)) else (none)) else (none)) else (none)) = some r := H
    have A9 := Aside0.mk A90
    clear A90
    obtain ⟨ji10, hji10⟩ : ∃ j_ : Int, (mn (a0.size : Int) 500) = j_ := ⟨_, rfl⟩
    replace H : (if 0 ≤ (ji10) then (if (ji10) ≤ (a0.size : Int) then (if 0 ≤ t341 then (if t341 ≤ (t339.size : Int) then (if 0 ≤ (mn (a3.size : Int) 20) then (if (mn (a3.size : Int) 20) ≤ (a3.size : Int) then (if (t341 : Int).toNat + ((mn (a3.size : Int) 20) : Int).toNat ≤ 9223372036854775807 then (if ((t341 : Int).toNat + ((mn (a3.size : Int) 20) : Int).toNat) + (t339.size - (t341 : Int).toNat) ≤ 9223372036854775807 then ((some (([a0.extract 0 ((ji10) : Int).toNat, t339, ((t339.extract 0 (t341 : Int).toNat) ++ (a3.extract 0 ((mn (a3.size : Int) 20) : Int).toNat)) ++ (t339.extract (t341 : Int).toNat t339.size)] : List ByteArray) : List ByteArray)).bind fun y342 => (columbariumlaw10_CodecOne.l0 k t335 y342 (y342.length : Int) 0)) else (none)) else (none)) else (none)) else (none)) else (none)) else (none)) else (none)) else (none)) = some r := by first | (rw [hji10] at H; exact H) | (simp only [hji10] at H ⊢; exact H)
    (try rw [hji10] at A5)
    (try rw [hji10] at A6)
    (try rw [hji10] at A7)
    (try rw [hji10] at A9)
    (try (have hji10h : ji10 ≤ 500 := by (rw [← hji10]; unfold mn; (repeat' split) <;> omega)))
    (try (have hji10g : ji10 ≤ 64 := by omega))
    (try (have hji10l : 0 ≤ ji10 := by (rw [← hji10]; unfold mn; (repeat' split) <;> omega)))
    (try (have hji10m : 0 ≤ ji10 := by omega))
    have hji10_ : (if 500 < (a0.size : Int) then 500 else (a0.size : Int)) = ji10 := hji10
    by_cases c11 : 0 ≤ (ji10)
    · rw [if_pos c11] at H
      have c11b0 := eq_true c11
      have c11b1 : decide (0 ≤ (ji10)) = true := decide_eq_true c11
      clear c11
      by_cases c12 : (ji10) ≤ (a0.size : Int)
      · rw [if_pos c12] at H
        have c12b0 := eq_true c12
        have c12b1 : decide ((ji10) ≤ (a0.size : Int)) = true := decide_eq_true c12
        clear c12
        by_cases c13 : 0 ≤ t341
        · rw [if_pos c13] at H
          have c13b0 := eq_true c13
          have c13b1 : decide (0 ≤ t341) = true := decide_eq_true c13
          clear c13
          by_cases c14 : t341 ≤ (t339.size : Int)
          · rw [if_pos c14] at H
            have c14b0 := eq_true c14
            have c14b1 : decide (t341 ≤ (t339.size : Int)) = true := decide_eq_true c14
            clear c14
            obtain ⟨ji15, hji15⟩ : ∃ j_ : Int, (mn (a3.size : Int) 20) = j_ := ⟨_, rfl⟩
            replace H : (if 0 ≤ (ji15) then (if (ji15) ≤ (a3.size : Int) then (if (t341 : Int).toNat + ((ji15) : Int).toNat ≤ 9223372036854775807 then (if ((t341 : Int).toNat + ((ji15) : Int).toNat) + (t339.size - (t341 : Int).toNat) ≤ 9223372036854775807 then ((some (([a0.extract 0 ((ji10) : Int).toNat, t339, ((t339.extract 0 (t341 : Int).toNat) ++ (a3.extract 0 ((ji15) : Int).toNat)) ++ (t339.extract (t341 : Int).toNat t339.size)] : List ByteArray) : List ByteArray)).bind fun y342 => (columbariumlaw10_CodecOne.l0 k t335 y342 (y342.length : Int) 0)) else (none)) else (none)) else (none)) else (none)) = some r := by first | (rw [hji15] at H; exact H) | (simp only [hji15] at H ⊢; exact H)
            (try rw [hji15] at A5)
            (try rw [hji15] at A6)
            (try rw [hji15] at A7)
            (try rw [hji15] at A9)
            (try (have hji15h : ji15 ≤ 20 := by (rw [← hji15]; unfold mn; (repeat' split) <;> omega)))
            (try (have hji15g : ji15 ≤ 64 := by omega))
            (try (have hji15l : 0 ≤ ji15 := by (rw [← hji15]; unfold mn; (repeat' split) <;> omega)))
            (try (have hji15m : 0 ≤ ji15 := by omega))
            have hji15_ : (if 20 < (a3.size : Int) then 20 else (a3.size : Int)) = ji15 := hji15
            by_cases c16 : 0 ≤ (ji15)
            · rw [if_pos c16] at H
              have c16b0 := eq_true c16
              have c16b1 : decide (0 ≤ (ji15)) = true := decide_eq_true c16
              clear c16
              by_cases c17 : (ji15) ≤ (a3.size : Int)
              · rw [if_pos c17] at H
                have c17b0 := eq_true c17
                have c17b1 : decide ((ji15) ≤ (a3.size : Int)) = true := decide_eq_true c17
                clear c17
                by_cases c18 : (t341 : Int).toNat + ((ji15) : Int).toNat ≤ 9223372036854775807
                · rw [if_pos c18] at H
                  have c18b0 := eq_true c18
                  have c18b1 : decide ((t341 : Int).toNat + ((ji15) : Int).toNat ≤ 9223372036854775807) = true := decide_eq_true c18
                  try have c18b2 : (9223372036854775807 < (t341 : Int).toNat + ((ji15) : Int).toNat) = False := eq_false (Nat.not_lt.2 c18)
                  have c19b0 := eq_true (of_decide_eq_true (by first | (with_reducible assumption) | assumption) : 0 ≤ t341)
                  have c20b0 := eq_true (of_decide_eq_true (by first | (with_reducible assumption) | assumption) : t341 ≤ (t339.size : Int))
                  by_cases c21 : ((t341 : Int).toNat + ((ji15) : Int).toNat) + (t339.size - (t341 : Int).toNat) ≤ 9223372036854775807
                  · rw [if_pos c21] at H
                    have c21b0 := eq_true c21
                    have c21b1 : decide (((t341 : Int).toNat + ((ji15) : Int).toNat) + (t339.size - (t341 : Int).toNat) ≤ 9223372036854775807) = true := decide_eq_true c21
                    try have c21b2 : (9223372036854775807 < ((t341 : Int).toNat + ((ji15) : Int).toNat) + (t339.size - (t341 : Int).toNat)) = False := eq_false (Nat.not_lt.2 c21)
                    obtain ⟨y342, hy342⟩ : ∃ y_ : List ByteArray, y_ = (([a0.extract 0 ((ji10) : Int).toNat, t339, ((t339.extract 0 (t341 : Int).toNat) ++ (a3.extract 0 ((ji15) : Int).toNat)) ++ (t339.extract (t341 : Int).toNat t339.size)] : List ByteArray)) := ⟨_, rfl⟩
                    replace H : (columbariumlaw10_CodecOne.l0 k t335 y342 (y342.length : Int) 0) = some r := by first | (rw [hy342]; with_reducible exact H) | (have H2_ := (Option.bind_some _ _).symm.trans H; rw [hy342]; with_reducible exact H2_) | (have H2_ := (Option.bind_some _ _).symm.trans H; with_reducible exact H2_) | with_reducible exact H | (rw [hy342]; exact H) | exact H
                    have Ny342 := Aside0.mk hy342
                    clear hy342
                    have H' := Aside0.mk H
                    clear H
                    go_enter Try.func5, Try.ntmps5
                    try go_wp2_with (first | ((with_reducible refine gate_callee (f := 9) rfl ?_); refine goesL_ (some 26) rfl rfl Try.func9 (by kernel_rfl) rfl #[] rfl (by (try simp only [List.map_toArray, List.map_cons, List.map_nil]); first | done | rfl | (simp only [List.length_drop, List.length_take]; rfl)) ?_; (with_reducible refine (columbariumlaw10_awake.calls k  t335 _ A5.out).mono ?_); rintro e w22 ⟨rfl, hb⟩; refine ⟨_, rfl, ?_⟩; have n0_ := Aside0.mk (below_step (by repeat (first | (with_reducible first | exact HB.out | apply below_alloc | apply pw_below_drewN | apply below_drew1) | exact HB.out)) hb); clear HB; have HB := n0_; clear n0_; (try clear hb); (try clear hb2); (try clear hk); (try clear hi)) | ((with_reducible refine gate_callee (f := 13) rfl ?_); refine goesL_ (some 29) rfl rfl Try.func13 (by kernel_rfl) rfl #[.slice A1 l1.length c1] rfl (by (try simp only [List.map_toArray, List.map_cons, List.map_nil]); first | done | rfl | (simp only [List.length_drop, List.length_take]; rfl)) ?_; (with_reducible refine (columbariumlaw10_Few.calls k _ _ l1 t336 _ ?side1 ?side2 A6.out).mono ?_); (case side1 => repeat (first | exact (Kd.C_below HR1.out HB.out) | (with_reducible refine Kd.C_alloc ?_ _) | (with_reducible refine Kd.C_drewN ?_ _) | (with_reducible refine Kd.C_drew ?_))); (case side2 => exact HC1.out); rintro e w23 ⟨v337, rfl, ho0, hb⟩; refine ⟨_, rfl, ?_⟩; have n0_ := Aside0.mk (Kd.R_lower ho0 (below_size (by repeat (first | (with_reducible first | exact HB.out | apply below_alloc | apply pw_below_drewN | apply below_drew1) | exact HB.out)))); have n1_ := Aside0.mk (below_step (by repeat (first | (with_reducible first | exact HB.out | apply below_alloc | apply pw_below_drewN | apply below_drew1) | exact HB.out)) hb); clear HB; have HO338 := n0_; have HB := n1_; clear n0_ n1_; (try clear hb); (try clear hb2); (try clear hk); (try clear hi); (try clear ho0); obtain ⟨Ao24, co24, eo24⟩ := Kd.R_slice HO338.out; subst eo24) | ((with_reducible refine gate_callee (f := 14) rfl ?_); refine goesL_ (some 30) rfl rfl Try.func14 (by kernel_rfl) rfl #[.slice Ao24 t336.length co24] rfl (by (try simp only [List.map_toArray, List.map_cons, List.map_nil]); first | done | rfl | (simp only [List.length_drop, List.length_take]; rfl)) ?_; (with_reducible refine (codec_List.calls _ _ t336 t339 t340 _ ?side1 ?side2 A7.out).mono ?_); (case side1 => repeat (first | exact (Kd.R_reads' HO338.out).2.2 | (with_reducible refine Kd.C_alloc ?_ _) | (with_reducible refine Kd.C_drewN ?_ _) | (with_reducible refine Kd.C_drew ?_))); (case side2 => exact (Kd.R_reads' HO338.out).2.1); rintro e w25 ⟨rfl, hb⟩; refine ⟨_, rfl, ?_⟩; have n0_ := Aside0.mk (Kd.R_below (by (with_reducible repeat (first | apply Kd.R_alloc | apply Kd.R_drewN | apply Kd.R_drew)); exact HO338.out) hb); have n1_ := Aside0.mk (below_step (by repeat (first | (with_reducible first | exact HB.out | apply below_alloc | apply pw_below_drewN | apply below_drew1) | exact HB.out)) hb); clear HO338; clear HB; have HO338 := n0_; have HB := n1_; clear n0_ n1_; (try clear hb); (try clear hb2); (try clear hk); (try clear hi)) | ((with_reducible refine gate_callee (f := 10) rfl ?_); refine goesL_ (some 39) rfl rfl Try.func10 (by kernel_rfl) rfl #[.int .i64 a2, .int .i64 (wrap64 ((t339.size : Int) + 1))] rfl (by (try simp only [List.map_toArray, List.map_cons, List.map_nil]); first | done | rfl | (simp only [List.length_drop, List.length_take]; rfl)) ?_; (with_reducible refine (columbariumlaw10_pick.calls a2 (wrap64 ((t339.size : Int) + 1)) t341 _ A9.out).mono ?_); rintro e w' ⟨rfl, ⟨nd, rfl⟩⟩; refine ⟨_, rfl, ?_⟩))
                    (try (rw [drewN_self w25]; generalize hq_ : World.drewN w25 _ = w25; have n0_ : Aside0 (Kd.R Kd.string 9 w25 w.heap.size (fun _ => True) (.slice Ao24 t336.length co24) t336) := ⟨by rw [← hq_]; exact (by (with_reducible repeat (first | apply Kd.R_alloc | apply Kd.R_drewN | apply Kd.R_drew)); exact HO338.out)⟩; have n1_ : Aside0 (Below w.heap.size w w25) := ⟨by rw [← hq_]; exact (by repeat (first | (with_reducible first | exact HB.out | apply below_alloc | apply pw_below_drewN | apply below_drew1) | exact HB.out))⟩; clear HO338 HB hq_; have HO338 := n0_; have HB := n1_; clear n0_ n1_))
                    have n0_ := Aside0.mk (Kd.R_drew HO338.out)
                    have n1_ := Aside0.mk (below_drew1 HB.out)
                    clear HO338
                    clear HB
                    have HO338 := n0_
                    have HB := n1_
                    clear n0_ n1_
                    refine start_ (n := 22) (S := fun w' => True) (ds := []) #[false, false, false, false, false, false, false, false, false, false, false, false, false, false, false, false, false, false, false, false, false, false] (by kernel_rfl) rfl rfl trivial (fun hHeld => ?_); refine with_tabW columbariumlaw10_CodecOne.tab6 columbariumlaw10_CodecOne.bits6 (fun HT_ HW_ => ?_)
                    generalize w25.drew = w26 at HO338 HB hHeld ⊢
                    refine pure_ (i := 0) (N := some 40) (v := ?_) (a' := ?_) #[true, false, false, false, false, false, false, false, false, false, false, false, false, false, false, false, false, false, false, false, false, false] rfl rfl (any_of HT_.out (by kernel_rfl)) (fun _ _ _ h => h) (Or.inl ⟨by rfl, ?_⟩) ?_ ?_
                    rotate_left
                    · intro w'
                      go_simp
                      with_reducible rfl
                    rotate_left
                    · simp only [Act.put, List.setIfInBounds_toArray, List.set_cons_zero, List.set_cons_succ, i64_w, i32_w]
                      rfl
                    refine pure_ (i := 1) (N := some 41) (v := ?_) (a' := ?_) #[true, true, false, false, false, false, false, false, false, false, false, false, false, false, false, false, false, false, false, false, false, false] rfl rfl (any_of HT_.out (by kernel_rfl)) (fun _ _ _ h => h) (Or.inl ⟨by rfl, ?_⟩) ?_ ?_
                    rotate_left
                    · intro w'
                      go_simp
                      with_reducible rfl
                    rotate_left
                    · simp only [Act.put, List.setIfInBounds_toArray, List.set_cons_zero, List.set_cons_succ, i64_w, i32_w]
                      rfl
                    refine pure_ (i := 2) (N := some 42) (v := ?_) (a' := ?_) #[true, true, true, false, false, false, false, false, false, false, false, false, false, false, false, false, false, false, false, false, false, false] rfl rfl (any_of HT_.out (by kernel_rfl)) (fun _ _ _ h => h) (Or.inl ⟨by rfl, ?_⟩) ?_ ?_
                    rotate_left
                    · intro w'
                      go_simp
                      with_reducible rfl
                    rotate_left
                    · simp only [Act.put, List.setIfInBounds_toArray, List.set_cons_zero, List.set_cons_succ, i64_w, i32_w]
                      rfl
                    refine pure_ (i := 3) (N := some 43) (v := ?_) (a' := ?_) #[true, true, true, true, false, false, false, false, false, false, false, false, false, false, false, false, false, false, false, false, false, false] rfl rfl (any_of HT_.out (by kernel_rfl)) (fun _ _ _ h => h) (Or.inl ⟨by rfl, ?_⟩) ?_ ?_
                    rotate_left
                    · intro w'
                      go_simp
                      with_reducible rfl
                    rotate_left
                    · simp only [Act.put, List.setIfInBounds_toArray, List.set_cons_zero, List.set_cons_succ, i64_w, i32_w]
                      rfl
                    refine pure_ (i := 4) (N := some 44) (v := ?_) (a' := ?_) #[true, true, true, true, true, false, false, false, false, false, false, false, false, false, false, false, false, false, false, false, false, false] rfl rfl (any_of HT_.out (by kernel_rfl)) (fun _ _ _ h => h) (Or.inl ⟨by rfl, ?_⟩) ?_ ?_
                    rotate_left
                    · intro w'
                      go_simp
                      with_reducible rfl
                    rotate_left
                    · simp only [Act.put, List.setIfInBounds_toArray, List.set_cons_zero, List.set_cons_succ, i64_w, i32_w]
                      rfl
                    refine pure_ (i := 5) (N := some 45) (v := ?_) (a' := ?_) #[true, true, true, true, true, true, false, false, false, false, false, false, false, false, false, false, false, false, false, false, false, false] rfl rfl (any_of HT_.out (by kernel_rfl)) (fun _ _ _ h => h) (Or.inl ⟨by rfl, ?_⟩) ?_ ?_
                    rotate_left
                    · intro w'
                      go_simp
                      with_reducible rfl
                    rotate_left
                    · simp only [Act.put, List.setIfInBounds_toArray, List.set_cons_zero, List.set_cons_succ, i64_w, i32_w]
                      rfl
                    refine pure_ (i := 6) (N := some 46) (v := ?_) (a' := ?_) #[true, true, true, true, true, true, true, false, false, false, false, false, false, false, false, false, false, false, false, false, false, false] rfl rfl (any_of HT_.out (by kernel_rfl)) (fun _ _ _ h => h) (Or.inl ⟨by rfl, ?_⟩) ?_ ?_
                    rotate_left
                    · intro w'
                      go_simp
                      with_reducible rfl
                    rotate_left
                    · simp only [Act.put, List.setIfInBounds_toArray, List.set_cons_zero, List.set_cons_succ, i64_w, i32_w]
                      rfl
                    refine pure_ (i := 7) (N := some 47) (v := ?_) (a' := ?_) #[true, true, true, true, true, true, true, true, false, false, false, false, false, false, false, false, false, false, false, false, false, false] rfl rfl (any_of HT_.out (by kernel_rfl)) (fun _ _ _ h => h) (Or.inl ⟨by rfl, ?_⟩) ?_ ?_
                    rotate_left
                    · intro w'
                      go_simp
                      with_reducible rfl
                    rotate_left
                    · simp only [Act.put, List.setIfInBounds_toArray, List.set_cons_zero, List.set_cons_succ, i64_w, i32_w]
                      rfl
                    refine pure_ (i := 8) (N := some 48) (v := ?_) (a' := ?_) #[true, true, true, true, true, true, true, true, true, false, false, false, false, false, false, false, false, false, false, false, false, false] rfl rfl (any_of HT_.out (by kernel_rfl)) (fun _ _ _ h => h) (Or.inl ⟨by rfl, ?_⟩) ?_ ?_
                    rotate_left
                    · intro w'
                      go_simp
                      with_reducible rfl
                    rotate_left
                    · simp only [Act.put, List.setIfInBounds_toArray, List.set_cons_zero, List.set_cons_succ, i64_w, i32_w]
                      rfl
                    refine pure_ (i := 9) (N := some 49) (v := ?_) (a' := ?_) #[true, true, true, true, true, true, true, true, true, true, false, false, false, false, false, false, false, false, false, false, false, false] rfl rfl (any_of HT_.out (by kernel_rfl)) (fun _ _ _ h => h) (Or.inl ⟨by rfl, ?_⟩) ?_ ?_
                    rotate_left
                    · intro w'
                      go_simp
                      with_reducible rfl
                    rotate_left
                    · simp only [Act.put, List.setIfInBounds_toArray, List.set_cons_zero, List.set_cons_succ, i64_w, i32_w]
                      rfl
                    refine pure_ (i := 10) (N := some 50) (v := ?_) (a' := ?_) #[true, true, true, true, true, true, true, true, true, true, true, false, false, false, false, false, false, false, false, false, false, false] rfl rfl (any_of HT_.out (by kernel_rfl)) (fun _ _ _ h => h) (Or.inl ⟨by rfl, ?_⟩) ?_ ?_
                    rotate_left
                    · intro w'
                      go_simp
                      with_reducible rfl
                    rotate_left
                    · simp only [Act.put, List.setIfInBounds_toArray, List.set_cons_zero, List.set_cons_succ, i64_w, i32_w]
                      rfl
                    refine pure_ (i := 11) (N := some 51) (v := ?_) (a' := ?_) #[true, true, true, true, true, true, true, true, true, true, true, true, false, false, false, false, false, false, false, false, false, false] rfl rfl (any_of HT_.out (by kernel_rfl)) (fun _ _ _ h => h) (Or.inl ⟨by rfl, ?_⟩) ?_ ?_
                    rotate_left
                    · intro w'
                      go_simp
                      with_reducible rfl
                    rotate_left
                    · simp only [Act.put, List.setIfInBounds_toArray, List.set_cons_zero, List.set_cons_succ, i64_w, i32_w]
                      rfl
                    refine pure_ (i := 12) (N := some 52) (v := ?_) (a' := ?_) #[true, true, true, true, true, true, true, true, true, true, true, true, true, false, false, false, false, false, false, false, false, false] rfl rfl (any_of HT_.out (by kernel_rfl)) (fun _ _ _ h => h) (Or.inl ⟨by rfl, ?_⟩) ?_ ?_
                    rotate_left
                    · intro w'
                      go_simp
                      with_reducible rfl
                    rotate_left
                    · simp only [Act.put, List.setIfInBounds_toArray, List.set_cons_zero, List.set_cons_succ, i64_w, i32_w]
                      rfl
                    refine pure_ (i := 13) (N := some 53) (v := ?_) (a' := ?_) #[true, true, true, true, true, true, true, true, true, true, true, true, true, true, false, false, false, false, false, false, false, false] rfl rfl (any_of HT_.out (by kernel_rfl)) (fun _ _ _ h => h) (Or.inl ⟨by rfl, ?_⟩) ?_ ?_
                    rotate_left
                    · intro w'
                      go_simp
                      with_reducible rfl
                    rotate_left
                    · simp only [Act.put, List.setIfInBounds_toArray, List.set_cons_zero, List.set_cons_succ, i64_w, i32_w]
                      rfl
                    refine pure_ (i := 14) (N := some 54) (v := ?_) (a' := ?_) #[true, true, true, true, true, true, true, true, true, true, true, true, true, true, true, false, false, false, false, false, false, false] rfl rfl (any_of HT_.out (by kernel_rfl)) (fun _ _ _ h => h) (Or.inl ⟨by rfl, ?_⟩) ?_ ?_
                    rotate_left
                    · intro w'
                      go_simp
                      with_reducible rfl
                    rotate_left
                    · simp only [Act.put, List.setIfInBounds_toArray, List.set_cons_zero, List.set_cons_succ, i64_w, i32_w]
                      rfl
                    refine pure_ (i := 15) (N := some 55) (v := ?_) (a' := ?_) #[true, true, true, true, true, true, true, true, true, true, true, true, true, true, true, true, false, false, false, false, false, false] rfl rfl (any_of HT_.out (by kernel_rfl)) (fun _ _ _ h => h) (Or.inl ⟨by rfl, ?_⟩) ?_ ?_
                    rotate_left
                    · intro w'
                      go_simp
                      with_reducible rfl
                    rotate_left
                    · simp only [Act.put, List.setIfInBounds_toArray, List.set_cons_zero, List.set_cons_succ, i64_w, i32_w]
                      rfl
                    refine pure_ (i := 16) (N := some 56) (v := ?_) (a' := ?_) #[true, true, true, true, true, true, true, true, true, true, true, true, true, true, true, true, true, false, false, false, false, false] rfl rfl (any_of HT_.out (by kernel_rfl)) (fun _ _ _ h => h) (Or.inl ⟨by rfl, ?_⟩) ?_ ?_
                    rotate_left
                    · intro w'
                      go_simp
                      with_reducible rfl
                    rotate_left
                    · simp only [Act.put, List.setIfInBounds_toArray, List.set_cons_zero, List.set_cons_succ, i64_w, i32_w]
                      rfl
                    refine pure_ (i := 17) (N := some 57) (v := ?_) (a' := ?_) #[true, true, true, true, true, true, true, true, true, true, true, true, true, true, true, true, true, true, false, false, false, false] rfl rfl (any_of HT_.out (by kernel_rfl)) (fun _ _ _ h => h) (Or.inl ⟨by rfl, ?_⟩) ?_ ?_
                    rotate_left
                    · intro w'
                      go_simp
                      with_reducible rfl
                    rotate_left
                    · simp only [Act.put, List.setIfInBounds_toArray, List.set_cons_zero, List.set_cons_succ, i64_w, i32_w]
                      rfl
                    refine pure_ (i := 18) (N := some 58) (v := ?_) (a' := ?_) #[true, true, true, true, true, true, true, true, true, true, true, true, true, true, true, true, true, true, true, false, false, false] rfl rfl (any_of HT_.out (by kernel_rfl)) (fun _ _ _ h => h) (Or.inl ⟨by rfl, ?_⟩) ?_ ?_
                    rotate_left
                    · intro w'
                      go_simp
                      with_reducible rfl
                    rotate_left
                    · simp only [Act.put, List.setIfInBounds_toArray, List.set_cons_zero, List.set_cons_succ, i64_w, i32_w]
                      rfl
                    refine pure_ (i := 21) (N := some 61) (v := ?_) (a' := ?_) #[true, true, true, true, true, true, true, true, true, true, true, true, true, true, true, true, true, true, true, false, false, true] rfl rfl (any_of HT_.out (by kernel_rfl)) (fun _ _ _ h => h) (Or.inl ⟨by rfl, ?_⟩) ?_ ?_
                    rotate_left
                    · intro w'
                      go_simp
                      with_reducible rfl
                    rotate_left
                    · simp only [Act.put, List.setIfInBounds_toArray, List.set_cons_zero, List.set_cons_succ, i64_w, i32_w]
                      rfl
                    refine one_ (i := 19) (N := some 59) #[true, true, true, true, true, true, true, true, true, true, true, true, true, true, true, true, true, true, true, true, false, true] rfl rfl (one_of HT_.out (by kernel_rfl)) (by decide) (fun K hK => ?_)
                    refine Kd.R_lit_step Kd.string _ 9 ?hg (N := 59) ?hd (xs := ([a0.extract 0 ((ji10) : Int).toNat, t339, ((t339.extract 0 (t341 : Int).toNat) ++ (a3.extract 0 ((ji15) : Int).toNat)) ++ (t339.extract (t341 : Int).toNat t339.size)] : List ByteArray)) (inner := [.string (a0.extract 0 ((ji10) : Int).toNat), .string t339, .string (((t339.extract 0 (t341 : Int).toNat) ++ (a3.extract 0 ((ji15) : Int).toNat)) ++ (t339.extract (t341 : Int).toNat t339.size))]) (ok := fun _ => True) (okp := fun _ => True) ?hr ?hp (fun _ hk => hk) trivial (Below.refl _ _) (Nat.le_refl _) (by simp) ?_; (case hd => rfl); (case hg => rfl); (case hr => first | (go_simp; done) | (go_simp; rfl)); (case hp => exact (Reps.one (show Kd.M Kd.string _ _ _ (a0.extract 0 ((ji10) : Int).toNat) [.string (a0.extract 0 ((ji10) : Int).toNat)] from rfl) (Reps.one (show Kd.M Kd.string _ _ _ t339 [.string t339] from rfl) (Reps.one (show Kd.M Kd.string _ _ _ (((t339.extract 0 (t341 : Int).toNat) ++ (a3.extract 0 ((ji15) : Int).toNat)) ++ (t339.extract (t341 : Int).toNat t339.size)) [.string (((t339.extract 0 (t341 : Int).toNat) ++ (a3.extract 0 ((ji15) : Int).toNat)) ++ (t339.extract (t341 : Int).toNat t339.size))] from rfl) (Reps.none _ _)))))
                    intro v343 w27 ho28 hb hg_ hnew_
                    clear hg_ hnew_
                    (first | rw [← Ny342.out] at ho28 | (simp only [Int.reduceToNat] at ho28; rw [← Ny342.out] at ho28))
                    have n0_ := Aside0.mk (Kd.R_elder' (by (with_reducible repeat (first | apply Kd.R_alloc | apply Kd.R_drewN | apply Kd.R_drew)); exact HO338.out) (Kd.R_base ho28) hb)
                    have n1_ := Aside0.mk (Kd.R_lower (Kd.R_new' ho28 (Kd.R_lt (by (with_reducible repeat (first | apply Kd.R_alloc | apply Kd.R_drewN | apply Kd.R_drew)); exact HO338.out))) (below_size (by repeat (first | (with_reducible first | exact HB.out | apply below_alloc | apply pw_below_drewN | apply below_drew1) | exact HB.out))))
                    have n2_ := Aside0.mk (below_step (by repeat (first | (with_reducible first | exact HB.out | apply below_alloc | apply pw_below_drewN | apply below_drew1) | exact HB.out)) hb)
                    clear HO338
                    clear HB
                    have HO338 := n0_
                    have HO344 := n1_
                    have HB := n2_
                    clear n0_ n1_ n2_
                    clear hb ho28
                    obtain ⟨Ao29, co29, eo29⟩ := Kd.R_slice HO344.out
                    (first | subst eo29 | (injection eo29 with f1_ f2_ f3_; have f4_ := f1_.symm; have f5_ := f3_.symm; clear f1_ f2_ f3_; subst f4_; subst f5_))
                    refine hK.out _ _ trivial (fun hHeld => ?_)
                    clear hK K
                    refine norm_ (a' := ?_) ?_ ?_
                    rotate_left
                    · show Act.put _ (some 59) _ = _
                      simp only [Act.put, List.setIfInBounds_toArray, List.set_cons_zero, List.set_cons_succ, i64_w, i32_w]
                      rfl
                    refine pure_ (i := 20) (N := some 60) (v := ?_) (a' := ?_) #[true, true, true, true, true, true, true, true, true, true, true, true, true, true, true, true, true, true, true, true, true, true] rfl rfl (any_of HT_.out (by kernel_rfl)) (fun _ _ _ h => h) (Or.inl ⟨by rfl, ?_⟩) ?_ ?_
                    rotate_left
                    · intro w'
                      go_simp
                      with_reducible rfl
                    rotate_left
                    · simp only [Act.put, List.setIfInBounds_toArray, List.set_cons_zero, List.set_cons_succ, i64_w, i32_w]
                      rfl
                    refine done_ (done_of HT_.out (by kernel_rfl)) ?_
                    try go_wp2
                    go_loopg [61] k (fun kq v61 w' => ∃ (x61_1 : Int), v61 = .int .i64 x61_1 ∧ Aside0 (columbariumlaw10_CodecOne.l0 kq t335 y342 (y342.length : Int) x61_1 = some r) ∧ Aside0 (kq ≤ k) ∧ Aside0 (Kd.R Kd.string 9 w' w.heap.size (fun _ => True) (.slice Ao29 y342.length co29) y342) ∧ Aside0 (Below w.heap.size w w'))
                    case atStart => exact ⟨(0), (by first | rfl | (simp; done) | (simp [*]; done)), H', ⟨Nat.le_refl _⟩, ⟨by (with_reducible repeat (first | apply Kd.R_alloc | apply Kd.R_drewN | apply Kd.R_drew)); exact Kd.R_mono HO344.out (fun _ hk => trivial)⟩, ⟨by repeat (first | (with_reducible first | exact HB.out | apply below_alloc | apply pw_below_drewN | apply below_drew1) | exact HB.out)⟩⟩
                    case round =>
                      clear H'
                      try clear c1
                      try clear c2
                      try clear p2
                      try clear c5
                      try clear p6
                      try clear c8
                      try clear c8b0
                      try clear c8b1
                      try clear c9
                      try clear c10
                      try clear c11
                      try clear c11b0
                      try clear c11b1
                      try clear c12
                      try clear c12b0
                      try clear c12b1
                      try clear c13
                      try clear c13b0
                      try clear c13b1
                      try clear c14
                      try clear c14b0
                      try clear c14b1
                      try clear c16
                      try clear c16b0
                      try clear c16b1
                      try clear c17
                      try clear c17b0
                      try clear c17b1
                      try clear c18
                      try clear c18b0
                      try clear c18b1
                      try clear c18b2
                      try clear c19
                      try clear c19b0
                      try clear c20
                      try clear c20b0
                      try clear c21
                      try clear c21b0
                      try clear c21b1
                      try clear c21b2
                      obtain ⟨x61_1, rfl, HA, HK1, HO_59, HB⟩ := hrel
                      cases gk with
                      | zero => exact absurd HA.out (by simp [columbariumlaw10_CodecOne.l0])
                      | succ k1 =>
                        have H := HA.out
                        clear HA
                        simp only [columbariumlaw10_CodecOne.l0] at H
                        by_cases c30 : x61_1 < (y342.length : Int)
                        · rw [if_pos c30] at H
                          have c30b0 : decide (x61_1 < (y342.length : Int)) = true := decide_eq_true c30
                          clear c30
                          by_cases c31 : 0 ≤ x61_1
                          · rw [if_pos c31] at H
                            have c31b0 : decide (0 ≤ x61_1) = true := decide_eq_true c31
                            clear c31
                            by_cases c32 : x61_1 < (y342.length : Int)
                            · rw [if_pos c32] at H
                              have c32b0 : decide (x61_1 < (y342.length : Int)) = true := decide_eq_true c32
                              clear c32
                              replace H := Option.bind_eq_some_iff.mp H
                              obtain ⟨⟨t346, t349, t350, t351⟩, A330, H⟩ := H
                              replace H : (if t351 = 0 then ((codec_List.f t346).bind fun bt353 => (if t350 < 4 then (none) else (if t350 > ((rdOf ByteArray.empty y342 x61_1).size : Int) then (none) else (if 0 ≤ (wrap64 (t350 - 1)) then (if (wrap64 (t350 - 1)) ≤ ((rdOf ByteArray.empty y342 x61_1).size : Int) then ((codec_TakeList.f k1 ((rdOf ByteArray.empty y342 x61_1).extract 0 ((wrap64 (t350 - 1)) : Int).toNat) 0).bind fun bt355 => (if bt353.2 = 0 then (if 0 ≤ t350 then (if t350 ≤ ((rdOf ByteArray.empty y342 x61_1).size : Int) then (if bt353.1.toList = ((rdOf ByteArray.empty y342 x61_1).extract 0 (t350 : Int).toNat).toList then (if bt355.2.2.2 = 10 then (if bt355.2.2.1 = 0 then ((codec_TakeText.f k1 (rdOf ByteArray.empty y342 x61_1) 0).bind fun bt362 => (if bt362.2.2.2 = 0 then ((codec_Text.f bt362.1).bind fun bt366 => (if bt366.2 = 0 then (if bt362.2.2.1 > ((rdOf ByteArray.empty y342 x61_1).size : Int) then (none) else (if 0 ≤ bt362.2.2.1 then (if bt362.2.2.1 ≤ ((rdOf ByteArray.empty y342 x61_1).size : Int) then (if bt366.1.toList = ((rdOf ByteArray.empty y342 x61_1).extract 0 (bt362.2.2.1 : Int).toNat).toList then (columbariumlaw10_CodecOne.l0 k1 t335 y342 (y342.length : Int) (wrap64 (x61_1 + 1))) else (none)) else (none)) else (none))) else (none))) else (columbariumlaw10_CodecOne.l0 k1 t335 y342 (y342.length : Int) (wrap64 (x61_1 + 1))))) else (none)) else (none)) else (none)) else (none)) else (none)) else (none))) else (none)) else (none))))) else ((codec_TakeText.f k1 (rdOf ByteArray.empty y342 x61_1) 0).bind fun bt368 => (if bt368.2.2.2 = 0 then ((codec_Text.f bt368.1).bind fun bt372 => (if bt372.2 = 0 then (if bt368.2.2.1 > ((rdOf ByteArray.empty y342 x61_1).size : Int) then (none) else (if 0 ≤ bt368.2.2.1 then (if bt368.2.2.1 ≤ ((rdOf ByteArray.empty y342 x61_1).size : Int) then (if bt372.1.toList = ((rdOf ByteArray.empty y342 x61_1).extract 0 (bt368.2.2.1 : Int).toNat).toList then (columbariumlaw10_CodecOne.l0 k1 t335 y342 (y342.length : Int) (wrap64 (x61_1 + 1))) else (none)) else (none)) else (none))) else (none))) else (columbariumlaw10_CodecOne.l0 k1 t335 y342 (y342.length : Int) (wrap64 (x61_1 + 1)))))) = some r := H
                              have A33 := Aside0.mk A330
                              clear A330
                              by_cases c34 : t351 = 0
                              · rw [if_pos c34] at H
                                have c34b0 : (t351 == 0) = true := beq_iff_eq.mpr c34
                                have c34b1 : (t351 != 0) = false := bne_eq_false_iff_eq.mpr c34
                                clear c34
                                replace H := Option.bind_eq_some_iff.mp H
                                obtain ⟨⟨t353, t354⟩, A350, H⟩ := H
                                replace H : (if t350 < 4 then (none) else (if t350 > ((rdOf ByteArray.empty y342 x61_1).size : Int) then (none) else (if 0 ≤ (wrap64 (t350 - 1)) then (if (wrap64 (t350 - 1)) ≤ ((rdOf ByteArray.empty y342 x61_1).size : Int) then ((codec_TakeList.f k1 ((rdOf ByteArray.empty y342 x61_1).extract 0 ((wrap64 (t350 - 1)) : Int).toNat) 0).bind fun bt355 => (if t354 = 0 then (if 0 ≤ t350 then (if t350 ≤ ((rdOf ByteArray.empty y342 x61_1).size : Int) then (if t353.toList = ((rdOf ByteArray.empty y342 x61_1).extract 0 (t350 : Int).toNat).toList then (if bt355.2.2.2 = 10 then (if bt355.2.2.1 = 0 then ((codec_TakeText.f k1 (rdOf ByteArray.empty y342 x61_1) 0).bind fun bt362 => (if bt362.2.2.2 = 0 then ((codec_Text.f bt362.1).bind fun bt366 => (if bt366.2 = 0 then (if bt362.2.2.1 > ((rdOf ByteArray.empty y342 x61_1).size : Int) then (none) else (if 0 ≤ bt362.2.2.1 then (if bt362.2.2.1 ≤ ((rdOf ByteArray.empty y342 x61_1).size : Int) then (if bt366.1.toList = ((rdOf ByteArray.empty y342 x61_1).extract 0 (bt362.2.2.1 : Int).toNat).toList then (columbariumlaw10_CodecOne.l0 k1 t335 y342 (y342.length : Int) (wrap64 (x61_1 + 1))) else (none)) else (none)) else (none))) else (none))) else (columbariumlaw10_CodecOne.l0 k1 t335 y342 (y342.length : Int) (wrap64 (x61_1 + 1))))) else (none)) else (none)) else (none)) else (none)) else (none)) else (none))) else (none)) else (none)))) = some r := H
                                have A35 := Aside0.mk A350
                                clear A350
                                by_cases c36 : t350 < 4
                                · rw [if_pos c36] at H
                                  exact absurd H (by simp)
                                · rw [if_neg c36] at H
                                  have c36b0 : decide (t350 < 4) = false := decide_eq_false c36
                                  clear c36
                                  by_cases c37 : t350 > ((rdOf ByteArray.empty y342 x61_1).size : Int)
                                  · rw [if_pos c37] at H
                                    exact absurd H (by simp)
                                  · rw [if_neg c37] at H
                                    have c37b0 : decide (((rdOf ByteArray.empty y342 x61_1).size : Int) < t350) = false := decide_eq_false c37
                                    clear c37
                                    obtain ⟨ji38, hji38⟩ : ∃ j_ : Int, (wrap64 (t350 - 1)) = j_ := ⟨_, rfl⟩
                                    replace H : (if 0 ≤ (ji38) then (if (ji38) ≤ ((rdOf ByteArray.empty y342 x61_1).size : Int) then ((codec_TakeList.f k1 ((rdOf ByteArray.empty y342 x61_1).extract 0 ((ji38) : Int).toNat) 0).bind fun bt355 => (if t354 = 0 then (if 0 ≤ t350 then (if t350 ≤ ((rdOf ByteArray.empty y342 x61_1).size : Int) then (if t353.toList = ((rdOf ByteArray.empty y342 x61_1).extract 0 (t350 : Int).toNat).toList then (if bt355.2.2.2 = 10 then (if bt355.2.2.1 = 0 then ((codec_TakeText.f k1 (rdOf ByteArray.empty y342 x61_1) 0).bind fun bt362 => (if bt362.2.2.2 = 0 then ((codec_Text.f bt362.1).bind fun bt366 => (if bt366.2 = 0 then (if bt362.2.2.1 > ((rdOf ByteArray.empty y342 x61_1).size : Int) then (none) else (if 0 ≤ bt362.2.2.1 then (if bt362.2.2.1 ≤ ((rdOf ByteArray.empty y342 x61_1).size : Int) then (if bt366.1.toList = ((rdOf ByteArray.empty y342 x61_1).extract 0 (bt362.2.2.1 : Int).toNat).toList then (columbariumlaw10_CodecOne.l0 k1 t335 y342 (y342.length : Int) (wrap64 (x61_1 + 1))) else (none)) else (none)) else (none))) else (none))) else (columbariumlaw10_CodecOne.l0 k1 t335 y342 (y342.length : Int) (wrap64 (x61_1 + 1))))) else (none)) else (none)) else (none)) else (none)) else (none)) else (none))) else (none)) else (none)) = some r := by first | (rw [hji38] at H; exact H) | (simp only [hji38] at H ⊢; exact H)
                                    (try rw [hji38] at A33)
                                    (try rw [hji38] at A35)
                                    have hji38w : (IntKind.i64.wrap (t350 - 1)) = ji38 := (i64_w _).trans hji38
                                    by_cases c39 : 0 ≤ (ji38)
                                    · rw [if_pos c39] at H
                                      have c39b0 := eq_true c39
                                      have c39b1 : decide (0 ≤ (ji38)) = true := decide_eq_true c39
                                      clear c39
                                      by_cases c40 : (ji38) ≤ ((rdOf ByteArray.empty y342 x61_1).size : Int)
                                      · rw [if_pos c40] at H
                                        have c40b0 := eq_true c40
                                        have c40b1 : decide ((ji38) ≤ ((rdOf ByteArray.empty y342 x61_1).size : Int)) = true := decide_eq_true c40
                                        clear c40
                                        replace H := Option.bind_eq_some_iff.mp H
                                        obtain ⟨⟨t355, t358, t359, t360⟩, A410, H⟩ := H
                                        replace H : (if t354 = 0 then (if 0 ≤ t350 then (if t350 ≤ ((rdOf ByteArray.empty y342 x61_1).size : Int) then (if t353.toList = ((rdOf ByteArray.empty y342 x61_1).extract 0 (t350 : Int).toNat).toList then (if t360 = 10 then (if t359 = 0 then ((codec_TakeText.f k1 (rdOf ByteArray.empty y342 x61_1) 0).bind fun bt362 => (if bt362.2.2.2 = 0 then ((codec_Text.f bt362.1).bind fun bt366 => (if bt366.2 = 0 then (if bt362.2.2.1 > ((rdOf ByteArray.empty y342 x61_1).size : Int) then (none) else (if 0 ≤ bt362.2.2.1 then (if bt362.2.2.1 ≤ ((rdOf ByteArray.empty y342 x61_1).size : Int) then (if bt366.1.toList = ((rdOf ByteArray.empty y342 x61_1).extract 0 (bt362.2.2.1 : Int).toNat).toList then (columbariumlaw10_CodecOne.l0 k1 t335 y342 (y342.length : Int) (wrap64 (x61_1 + 1))) else (none)) else (none)) else (none))) else (none))) else (columbariumlaw10_CodecOne.l0 k1 t335 y342 (y342.length : Int) (wrap64 (x61_1 + 1))))) else (none)) else (none)) else (none)) else (none)) else (none)) else (none)) = some r := H
                                        have A41 := Aside0.mk A410
                                        clear A410
                                        by_cases c42 : t354 = 0
                                        · rw [if_pos c42] at H
                                          have c42b0 : (t354 == 0) = true := beq_iff_eq.mpr c42
                                          have c42b1 : (t354 != 0) = false := bne_eq_false_iff_eq.mpr c42
                                          clear c42
                                          by_cases c43 : 0 ≤ t350
                                          · rw [if_pos c43] at H
                                            have c43b0 := eq_true c43
                                            have c43b1 : decide (0 ≤ t350) = true := decide_eq_true c43
                                            clear c43
                                            by_cases c44 : t350 ≤ ((rdOf ByteArray.empty y342 x61_1).size : Int)
                                            · rw [if_pos c44] at H
                                              have c44b0 := eq_true c44
                                              have c44b1 : decide (t350 ≤ ((rdOf ByteArray.empty y342 x61_1).size : Int)) = true := decide_eq_true c44
                                              clear c44
                                              by_cases c45 : t353.toList = ((rdOf ByteArray.empty y342 x61_1).extract 0 (t350 : Int).toNat).toList
                                              · rw [if_pos c45] at H
                                                have c45b0 : (t353.toList == ((rdOf ByteArray.empty y342 x61_1).extract 0 (t350 : Int).toNat).toList) = true := beq_iff_eq.mpr c45
                                                have c45b1 : (t353.toList != ((rdOf ByteArray.empty y342 x61_1).extract 0 (t350 : Int).toNat).toList) = false := bne_eq_false_iff_eq.mpr c45
                                                clear c45
                                                by_cases c46 : t360 = 10
                                                · rw [if_pos c46] at H
                                                  have c46b0 : (t360 == 10) = true := beq_iff_eq.mpr c46
                                                  have c46b1 : (t360 != 10) = false := bne_eq_false_iff_eq.mpr c46
                                                  clear c46
                                                  by_cases c47 : t359 = 0
                                                  · rw [if_pos c47] at H
                                                    have c47b0 : (t359 == 0) = true := beq_iff_eq.mpr c47
                                                    have c47b1 : (t359 != 0) = false := bne_eq_false_iff_eq.mpr c47
                                                    clear c47
                                                    replace H := Option.bind_eq_some_iff.mp H
                                                    obtain ⟨⟨t362, t363, t364, t365⟩, A480, H⟩ := H
                                                    replace H : (if t365 = 0 then ((codec_Text.f t362).bind fun bt366 => (if bt366.2 = 0 then (if t364 > ((rdOf ByteArray.empty y342 x61_1).size : Int) then (none) else (if 0 ≤ t364 then (if t364 ≤ ((rdOf ByteArray.empty y342 x61_1).size : Int) then (if bt366.1.toList = ((rdOf ByteArray.empty y342 x61_1).extract 0 (t364 : Int).toNat).toList then (columbariumlaw10_CodecOne.l0 k1 t335 y342 (y342.length : Int) (wrap64 (x61_1 + 1))) else (none)) else (none)) else (none))) else (none))) else (columbariumlaw10_CodecOne.l0 k1 t335 y342 (y342.length : Int) (wrap64 (x61_1 + 1)))) = some r := H
                                                    have A48 := Aside0.mk A480
                                                    clear A480
                                                    by_cases c49 : t365 = 0
                                                    · rw [if_pos c49] at H
                                                      have c49b0 : (t365 == 0) = true := beq_iff_eq.mpr c49
                                                      have c49b1 : (t365 != 0) = false := bne_eq_false_iff_eq.mpr c49
                                                      clear c49
                                                      replace H := Option.bind_eq_some_iff.mp H
                                                      obtain ⟨⟨t366, t367⟩, A500, H⟩ := H
                                                      replace H : (if t367 = 0 then (if t364 > ((rdOf ByteArray.empty y342 x61_1).size : Int) then (none) else (if 0 ≤ t364 then (if t364 ≤ ((rdOf ByteArray.empty y342 x61_1).size : Int) then (if t366.toList = ((rdOf ByteArray.empty y342 x61_1).extract 0 (t364 : Int).toNat).toList then (columbariumlaw10_CodecOne.l0 k1 t335 y342 (y342.length : Int) (wrap64 (x61_1 + 1))) else (none)) else (none)) else (none))) else (none)) = some r := H
                                                      have A50 := Aside0.mk A500
                                                      clear A500
                                                      by_cases c51 : t367 = 0
                                                      · rw [if_pos c51] at H
                                                        have c51b0 : (t367 == 0) = true := beq_iff_eq.mpr c51
                                                        have c51b1 : (t367 != 0) = false := bne_eq_false_iff_eq.mpr c51
                                                        clear c51
                                                        by_cases c52 : t364 > ((rdOf ByteArray.empty y342 x61_1).size : Int)
                                                        · rw [if_pos c52] at H
                                                          exact absurd H (by simp)
                                                        · rw [if_neg c52] at H
                                                          have c52b0 : decide (((rdOf ByteArray.empty y342 x61_1).size : Int) < t364) = false := decide_eq_false c52
                                                          clear c52
                                                          by_cases c53 : 0 ≤ t364
                                                          · rw [if_pos c53] at H
                                                            have c53b0 := eq_true c53
                                                            have c53b1 : decide (0 ≤ t364) = true := decide_eq_true c53
                                                            clear c53
                                                            by_cases c54 : t364 ≤ ((rdOf ByteArray.empty y342 x61_1).size : Int)
                                                            · rw [if_pos c54] at H
                                                              have c54b0 := eq_true c54
                                                              have c54b1 : decide (t364 ≤ ((rdOf ByteArray.empty y342 x61_1).size : Int)) = true := decide_eq_true c54
                                                              clear c54
                                                              by_cases c55 : t366.toList = ((rdOf ByteArray.empty y342 x61_1).extract 0 (t364 : Int).toNat).toList
                                                              · rw [if_pos c55] at H
                                                                have c55b0 : (t366.toList == ((rdOf ByteArray.empty y342 x61_1).extract 0 (t364 : Int).toNat).toList) = true := beq_iff_eq.mpr c55
                                                                have c55b1 : (t366.toList != ((rdOf ByteArray.empty y342 x61_1).extract 0 (t364 : Int).toNat).toList) = false := bne_eq_false_iff_eq.mpr c55
                                                                clear c55
                                                                have H' := Aside0.mk H
                                                                clear H
                                                                have p345 : 0 ≤ (x61_1 : Int) := of_decide_eq_true (by first | (with_reducible assumption) | assumption)
                                                                have q345 : x61_1 < (y342.length : Int) := of_decide_eq_true (by first | (with_reducible assumption) | assumption)
                                                                obtain ⟨ad345, e345, hx345_0⟩ := Kd.at_string (Kd.R_reads' HO_59.out).2.2 x61_1 p345 q345
                                                                cases e345
                                                                replace p345 := eq_true p345
                                                                replace q345 := eq_true q345
                                                                go_wp2_with (first | ((with_reducible refine gate_callee (f := 24) rfl ?_); refine goesL_ (some 68) rfl rfl Try.func24 (by kernel_rfl) rfl #[.agg #[.string (rdOf ByteArray.empty y342 x61_1), .int .i64 0]] rfl (by (try simp only [List.map_toArray, List.map_cons, List.map_nil]); first | done | rfl | (simp only [List.length_drop, List.length_take]; rfl)) ?_; (with_reducible refine (codec_TakeList.calls k1 (rdOf ByteArray.empty y342 x61_1) 0 t346 t349 t350 t351 _ A33.out).mono ?_); rintro e w56 ⟨v347, rfl, ho0, hb⟩; refine ⟨_, rfl, ?_⟩; have n0_ := Aside0.mk (Kd.R_below (by (with_reducible repeat (first | apply Kd.R_alloc | apply Kd.R_drewN | apply Kd.R_drew)); exact HO_59.out) hb); have n1_ := Aside0.mk (Kd.V_lower (Kd.V_mono (ok' := fun k_ => some k_ ≠ (.slice (some ad345) y342.length co29 : Value).ownBlock) ho0 (fun k_ hk_ => (Kd.fresh' (Kd.R_lt (by (with_reducible repeat (first | apply Kd.R_alloc | apply Kd.R_drewN | apply Kd.R_drew)); exact HO_59.out)) k_ hk_))) (below_size (by repeat (first | (with_reducible first | exact HB.out | apply below_alloc | apply pw_below_drewN | apply below_drew1) | exact HB.out)))); have n2_ := Aside0.mk (below_step (by repeat (first | (with_reducible first | exact HB.out | apply below_alloc | apply pw_below_drewN | apply below_drew1) | exact HB.out)) hb); clear HO_59; clear HB; have HO_59 := n0_; have HO348 := n1_; have HB := n2_; clear n0_ n1_ n2_; (try clear hb); (try clear hb2); (try clear hk); (try clear hi); (try clear ho0)) | ((with_reducible refine gate_dst (N := 16) rfl ?_); (try (refine gate_guard (by rfl) ?_; dsimp only)); refine box_event ?hg (N := 16) ?hd (cs := #[.string (⟨#[]⟩ : ByteArray), .int .i64 0]) (t := 24) ?hr ?_; (case hd => rfl); (case hg => rfl); (case hr => first | (go_simp; done) | (go_simp; rfl)); intro gb352 hg w57 hbox hb; have n0_ := Aside0.mk (Kd.R_below (by (with_reducible repeat (first | apply Kd.R_alloc | apply Kd.R_drewN | apply Kd.R_drew)); exact HO_59.out) hb); have n1_ := Aside0.mk (Kd.V_below (Kd.V_elderB (by (with_reducible repeat (first | apply Kd.V_alloc | apply Kd.V_drewN | apply Kd.V_drew)); exact HO348.out) gb352 (Nat.le_of_eq hg.symm)) hb); have n2_ := Aside0.mk (below_step (by repeat (first | (with_reducible first | exact HB.out | apply below_alloc | apply pw_below_drewN | apply below_drew1) | exact HB.out)) hb); have n3_ := Aside0.mk (hbox); have n4_ := Aside0.mk ((by rw [hg]; exact (below_size (by repeat (first | (with_reducible first | exact HB.out | apply below_alloc | apply pw_below_drewN | apply below_drew1) | exact HB.out))) : w.heap.size ≤ gb352)); have n5_ := Aside0.mk ((by rw [hg]; exact (below_size (by repeat (first | (with_reducible first | exact HB.out | apply below_alloc | apply pw_below_drewN | apply below_drew1) | exact HB.out))) : w.heap.size ≤ gb352)); clear HO_59; clear HO348; clear HB; have HO_59 := n0_; have HO348 := n1_; have HB := n2_; have BK352 := n3_; have GW352 := n4_; have GE352 := n5_; clear n0_ n1_ n2_ n3_ n4_ n5_; clear hb hbox hg; have hcz58_0 : w57.cell? ⟨gb352, 0, none⟩ = some (.string (⟨#[]⟩ : ByteArray)) := (blk_cell BK352.out 0).trans rfl; have hcz58_1 : w57.cell? ⟨gb352, 1, none⟩ = some (.int .i64 0) := (blk_cell BK352.out 1).trans rfl; have hfz58_0 := blk_frozen BK352.out 0; have hfz58_1 := blk_frozen BK352.out 1; obtain ⟨Ao59, co59, eo59⟩ := Kd.V_slice HO348.out; subst eo59) | ((with_reducible refine gate_callee (f := 14) rfl ?_); refine goesL_ (some 76) rfl rfl Try.func14 (by kernel_rfl) rfl #[.slice Ao59 t346.length co59] rfl (by (try simp only [List.map_toArray, List.map_cons, List.map_nil]); first | done | rfl | (simp only [List.length_drop, List.length_take]; rfl)) ?_; (with_reducible refine (codec_List.calls _ _ t346 t353 t354 _ ?side1 ?side2 A35.out).mono ?_); (case side1 => refine (Kd.V_reads' (e := 9) (base := w.heap.size) (ok := fun k_ => (some k_ ≠ (.slice (some ad345) y342.length co29 : Value).ownBlock ∧ k_ ≠ gb352)) (n := t346.length) (c := co59) ?_).2.2; exact (by (with_reducible repeat (first | apply Kd.V_alloc | apply Kd.V_drewN | apply Kd.V_drew)); exact (Kd.V_mono (Kd.V_far (p := ⟨gb352, 1, none⟩) (Kd.V_far (p := ⟨gb352, 0, none⟩) (Kd.V_mono HO348.out (fun k_ hk => (⟨hk, hk.2⟩ : _ ∧ k_ ≠ gb352))) (fun _ hk => hk.2) (.string t349)) (fun _ hk => hk.2) (.int .i64 t350)) (fun _ h_ => h_.1)))); (case side2 => exact (Kd.V_reads' HO348.out).2.1); rintro e w60 ⟨rfl, hb⟩; refine ⟨_, rfl, ?_⟩; have n0_ := Aside0.mk (Kd.R_below (by (with_reducible repeat (first | apply Kd.R_alloc | apply Kd.R_drewN | apply Kd.R_drew)); exact (Kd.R_mono (Kd.R_far (p := ⟨gb352, 1, none⟩) (Kd.R_far (p := ⟨gb352, 0, none⟩) (Kd.R_types HO_59.out BK352.out (by decide)) (fun _ hk => hk.2) (.string t349)) (fun _ hk => hk.2) (.int .i64 t350)) (fun _ h_ => h_.1))) hb); have n1_ := Aside0.mk (Kd.V_below (by (with_reducible repeat (first | apply Kd.V_alloc | apply Kd.V_drewN | apply Kd.V_drew)); exact (Kd.V_mono (Kd.V_far (p := ⟨gb352, 1, none⟩) (Kd.V_far (p := ⟨gb352, 0, none⟩) (Kd.V_mono HO348.out (fun k_ hk => (⟨hk, hk.2⟩ : _ ∧ k_ ≠ gb352))) (fun _ hk => hk.2) (.string t349)) (fun _ hk => hk.2) (.int .i64 t350)) (fun _ h_ => h_.1))) hb); have n2_ := Aside0.mk (blk_below (g := gb352) (o := .cells #[.string t349, .int .i64 t350] 24 (0, 0)) (by (with_reducible repeat (first | refine blk_drewN ?_ _ | refine blk_drew ?_ | refine blk_alloc ?_ _)); refine blk_put (cs := #[.string t349, .int .i64 0]) ?_ 1 _ rfl; (with_reducible repeat (first | refine blk_drewN ?_ _ | refine blk_drew ?_ | refine blk_alloc ?_ _)); refine blk_put (cs := #[.string (⟨#[]⟩ : ByteArray), .int .i64 0]) ?_ 0 _ rfl; (with_reducible repeat (first | refine blk_drewN ?_ _ | refine blk_drew ?_ | refine blk_alloc ?_ _)); exact BK352.out) hb); have n3_ := Aside0.mk (below_step (by repeat (first | (with_reducible first | exact HB.out | apply below_alloc | apply pw_below_drewN | apply below_drew1 | refine below_set ?_ GE352.out) | exact HB.out)) hb); clear HO_59; clear HO348; clear BK352; clear HB; have HO_59 := n0_; have HO348 := n1_; have BK352 := n2_; have HB := n3_; clear n0_ n1_ n2_ n3_; (try clear hb); (try clear hb2); (try clear hk); (try clear hi); have hcz61_0 : w60.cell? ⟨gb352, 0, none⟩ = some (.string t349) := (blk_cell BK352.out 0).trans rfl; have hcz61_1 : w60.cell? ⟨gb352, 1, none⟩ = some (.int .i64 t350) := (blk_cell BK352.out 1).trans rfl; have hfz61_0 := blk_frozen BK352.out 0; have hfz61_1 := blk_frozen BK352.out 1) | ((with_reducible refine gate_callee (f := 24) rfl ?_); refine goesL_ (some 96) rfl rfl Try.func24 (by kernel_rfl) rfl #[.agg #[.string ((rdOf ByteArray.empty y342 x61_1).extract 0 ((ji38) : Int).toNat), .int .i64 0]] rfl (by (try simp only [List.map_toArray, List.map_cons, List.map_nil]); first | done | (simp only [hji38]; rfl) | rfl | (simp only [List.length_drop, List.length_take]; rfl)) ?_; (with_reducible refine (codec_TakeList.calls k1 ((rdOf ByteArray.empty y342 x61_1).extract 0 ((ji38) : Int).toNat) 0 t355 t358 t359 t360 _ A41.out).mono ?_); rintro e w62 ⟨v356, rfl, ho0, hb⟩; refine ⟨_, rfl, ?_⟩; have n0_ := Aside0.mk (Kd.R_below (by (with_reducible repeat (first | apply Kd.R_alloc | apply Kd.R_drewN | apply Kd.R_drew)); exact HO_59.out) hb); have n1_ := Aside0.mk (Kd.V_below (by (with_reducible repeat (first | apply Kd.V_alloc | apply Kd.V_drewN | apply Kd.V_drew)); exact HO348.out) hb); have n2_ := Aside0.mk (Kd.V_lower (Kd.V_mono (ok' := fun k_ => some k_ ≠ (.slice (some ad345) y342.length co29 : Value).ownBlock ∧ k_ ≠ gb352) ho0 (fun k_ hk_ => ⟨(Kd.fresh' (Kd.R_lt (by (with_reducible repeat (first | apply Kd.R_alloc | apply Kd.R_drewN | apply Kd.R_drew)); exact HO_59.out)) k_ hk_), (Kd.freshB (g := gb352) (o := .cells #[.string t349, .int .i64 t350] 24 (0, 0)) (by (with_reducible repeat (first | refine blk_drewN ?_ _ | refine blk_drew ?_ | refine blk_alloc ?_ _)); exact BK352.out) k_ hk_)⟩)) (below_size (by repeat (first | (with_reducible first | exact HB.out | apply below_alloc | apply pw_below_drewN | apply below_drew1 | refine below_set ?_ GE352.out) | exact HB.out)))); have n3_ := Aside0.mk (blk_below (g := gb352) (o := .cells #[.string t349, .int .i64 t350] 24 (0, 0)) (by (with_reducible repeat (first | refine blk_drewN ?_ _ | refine blk_drew ?_ | refine blk_alloc ?_ _)); exact BK352.out) hb); have n4_ := Aside0.mk (below_step (by repeat (first | (with_reducible first | exact HB.out | apply below_alloc | apply pw_below_drewN | apply below_drew1 | refine below_set ?_ GE352.out) | exact HB.out)) hb); clear HO_59; clear HO348; clear BK352; clear HB; have HO_59 := n0_; have HO348 := n1_; have HO357 := n2_; have BK352 := n3_; have HB := n4_; clear n0_ n1_ n2_ n3_ n4_; (try clear hb); (try clear hb2); (try clear hk); (try clear hi); (try clear ho0)) | ((with_reducible refine gate_dst (N := 21) rfl ?_); (try (refine gate_guard (by rfl) ?_; dsimp only)); refine box_event ?hg (N := 21) ?hd (cs := #[.string (⟨#[]⟩ : ByteArray), .int .i64 0]) (t := 24) ?hr ?_; (case hd => rfl); (case hg => rfl); (case hr => first | (go_simp; done) | (go_simp; rfl)); intro gb361 hg w63 hbox hb; have n0_ := Aside0.mk (Kd.R_below (by (with_reducible repeat (first | apply Kd.R_alloc | apply Kd.R_drewN | apply Kd.R_drew)); exact HO_59.out) hb); have n1_ := Aside0.mk (Kd.V_below (Kd.V_elderB (by (with_reducible repeat (first | apply Kd.V_alloc | apply Kd.V_drewN | apply Kd.V_drew)); exact HO348.out) gb361 (Nat.le_of_eq hg.symm)) hb); have n2_ := Aside0.mk (Kd.V_below (Kd.V_elderB (by (with_reducible repeat (first | apply Kd.V_alloc | apply Kd.V_drewN | apply Kd.V_drew)); exact HO357.out) gb361 (Nat.le_of_eq hg.symm)) hb); have n3_ := Aside0.mk (blk_below (g := gb352) (o := .cells #[.string t349, .int .i64 t350] 24 (0, 0)) (by (with_reducible repeat (first | refine blk_drewN ?_ _ | refine blk_drew ?_ | refine blk_alloc ?_ _)); exact BK352.out) hb); have n4_ := Aside0.mk (below_step (by repeat (first | (with_reducible first | exact HB.out | apply below_alloc | apply pw_below_drewN | apply below_drew1 | refine below_set ?_ GE352.out) | exact HB.out)) hb); have n5_ := Aside0.mk (hbox); have n6_ := Aside0.mk ((by rw [hg]; exact (below_size (by repeat (first | (with_reducible first | exact HB.out | apply below_alloc | apply pw_below_drewN | apply below_drew1 | refine below_set ?_ GE352.out) | exact HB.out))) : w.heap.size ≤ gb361)); have n7_ := Aside0.mk ((by rw [hg]; exact (below_size (by repeat (first | (with_reducible first | exact HB.out | apply below_alloc | apply pw_below_drewN | apply below_drew1 | refine below_set ?_ GE352.out) | exact HB.out))) : w.heap.size ≤ gb361)); have n8_ := Aside0.mk ((by rw [hg]; exact Nat.ne_of_lt (blk_lt (g := gb352) (o := .cells #[.string t349, .int .i64 t350] 24 (0, 0)) (by (with_reducible repeat (first | refine blk_drewN ?_ _ | refine blk_drew ?_ | refine blk_alloc ?_ _)); exact BK352.out)) : gb352 ≠ gb361)); have n9_ := Aside0.mk ((by rw [hg]; exact Nat.ne_of_gt (blk_lt (g := gb352) (o := .cells #[.string t349, .int .i64 t350] 24 (0, 0)) (by (with_reducible repeat (first | refine blk_drewN ?_ _ | refine blk_drew ?_ | refine blk_alloc ?_ _)); exact BK352.out)) : gb361 ≠ gb352)); clear HO_59; clear HO348; clear HO357; clear BK352; clear HB; have HO_59 := n0_; have HO348 := n1_; have HO357 := n2_; have BK352 := n3_; have HB := n4_; have BK361 := n5_; have GW361 := n6_; have GE361 := n7_; have NB352_361 := n8_; have NB361_352 := n9_; clear n0_ n1_ n2_ n3_ n4_ n5_ n6_ n7_ n8_ n9_; clear hb hbox hg; have hnb64 := NB361_352.out; have hnc64 := NB352_361.out; have hcz65_0 : w63.cell? ⟨gb361, 0, none⟩ = some (.string (⟨#[]⟩ : ByteArray)) := (blk_cell BK361.out 0).trans rfl; have hcz65_1 : w63.cell? ⟨gb361, 1, none⟩ = some (.int .i64 0) := (blk_cell BK361.out 1).trans rfl; have hfz65_0 := blk_frozen BK361.out 0; have hfz65_1 := blk_frozen BK361.out 1; have hcz66_0 : w63.cell? ⟨gb352, 0, none⟩ = some (.string t349) := (blk_cell BK352.out 0).trans rfl; have hcz66_1 : w63.cell? ⟨gb352, 1, none⟩ = some (.int .i64 t350) := (blk_cell BK352.out 1).trans rfl; have hfz66_0 := blk_frozen BK352.out 0; have hfz66_1 := blk_frozen BK352.out 1) | ((with_reducible refine gate_callee (f := 22) rfl ?_); refine goesL_ (some 122) rfl rfl Try.func22 (by kernel_rfl) rfl #[.agg #[.string (rdOf ByteArray.empty y342 x61_1), .int .i64 0]] rfl (by (try simp only [List.map_toArray, List.map_cons, List.map_nil]); first | done | rfl | (simp only [List.length_drop, List.length_take]; rfl)) ?_; (with_reducible refine (codec_TakeText.calls k1 (rdOf ByteArray.empty y342 x61_1) 0 t362 t363 t364 t365 _ A48.out).mono ?_); rintro e w67 ⟨rfl, hb⟩; refine ⟨_, rfl, ?_⟩; have n0_ := Aside0.mk (Kd.R_below (by (with_reducible repeat (first | apply Kd.R_alloc | apply Kd.R_drewN | apply Kd.R_drew)); exact (Kd.R_mono (Kd.R_far (p := ⟨gb361, 1, none⟩) (Kd.R_far (p := ⟨gb361, 0, none⟩) (Kd.R_types HO_59.out BK361.out (by decide)) (fun _ hk => hk.2) (.string t358)) (fun _ hk => hk.2) (.int .i64 t359)) (fun _ h_ => h_.1))) hb); have n1_ := Aside0.mk (Kd.V_below (by (with_reducible repeat (first | apply Kd.V_alloc | apply Kd.V_drewN | apply Kd.V_drew)); exact (Kd.V_mono (Kd.V_far (p := ⟨gb361, 1, none⟩) (Kd.V_far (p := ⟨gb361, 0, none⟩) (Kd.V_mono HO348.out (fun k_ hk => (⟨hk, hk.2⟩ : _ ∧ k_ ≠ gb361))) (fun _ hk => hk.2) (.string t358)) (fun _ hk => hk.2) (.int .i64 t359)) (fun _ h_ => h_.1))) hb); have n2_ := Aside0.mk (Kd.V_below (by (with_reducible repeat (first | apply Kd.V_alloc | apply Kd.V_drewN | apply Kd.V_drew)); exact (Kd.V_mono (Kd.V_far (p := ⟨gb361, 1, none⟩) (Kd.V_far (p := ⟨gb361, 0, none⟩) (Kd.V_mono HO357.out (fun k_ hk => (⟨hk, hk.2⟩ : _ ∧ k_ ≠ gb361))) (fun _ hk => hk.2) (.string t358)) (fun _ hk => hk.2) (.int .i64 t359)) (fun _ h_ => h_.1))) hb); have n3_ := Aside0.mk (blk_below (g := gb352) (o := .cells #[.string t349, .int .i64 t350] 24 (0, 0)) (by (with_reducible repeat (first | refine blk_drewN ?_ _ | refine blk_drew ?_ | refine blk_alloc ?_ _)); refine blk_far ?_ NB352_361.out _; (with_reducible repeat (first | refine blk_drewN ?_ _ | refine blk_drew ?_ | refine blk_alloc ?_ _)); refine blk_far ?_ NB352_361.out _; (with_reducible repeat (first | refine blk_drewN ?_ _ | refine blk_drew ?_ | refine blk_alloc ?_ _)); exact BK352.out) hb); have n4_ := Aside0.mk (blk_below (g := gb361) (o := .cells #[.string t358, .int .i64 t359] 24 (0, 0)) (by (with_reducible repeat (first | refine blk_drewN ?_ _ | refine blk_drew ?_ | refine blk_alloc ?_ _)); refine blk_put (cs := #[.string t358, .int .i64 0]) ?_ 1 _ rfl; (with_reducible repeat (first | refine blk_drewN ?_ _ | refine blk_drew ?_ | refine blk_alloc ?_ _)); refine blk_put (cs := #[.string (⟨#[]⟩ : ByteArray), .int .i64 0]) ?_ 0 _ rfl; (with_reducible repeat (first | refine blk_drewN ?_ _ | refine blk_drew ?_ | refine blk_alloc ?_ _)); exact BK361.out) hb); have n5_ := Aside0.mk (below_step (by repeat (first | (with_reducible first | exact HB.out | apply below_alloc | apply pw_below_drewN | apply below_drew1 | refine below_set ?_ GE352.out | refine below_set ?_ GE361.out) | exact HB.out)) hb); clear HO_59; clear HO348; clear HO357; clear BK352; clear BK361; clear HB; have HO_59 := n0_; have HO348 := n1_; have HO357 := n2_; have BK352 := n3_; have BK361 := n4_; have HB := n5_; clear n0_ n1_ n2_ n3_ n4_ n5_; (try clear hb); (try clear hb2); (try clear hk); (try clear hi); have hcz68_0 : w67.cell? ⟨gb352, 0, none⟩ = some (.string t349) := (blk_cell BK352.out 0).trans rfl; have hcz68_1 : w67.cell? ⟨gb352, 1, none⟩ = some (.int .i64 t350) := (blk_cell BK352.out 1).trans rfl; have hfz68_0 := blk_frozen BK352.out 0; have hfz68_1 := blk_frozen BK352.out 1) | ((with_reducible refine gate_callee (f := 16) rfl ?_); refine goesL_ (some 130) rfl rfl Try.func16 (by kernel_rfl) rfl #[.string t362] rfl (by (try simp only [List.map_toArray, List.map_cons, List.map_nil]); first | done | rfl | (simp only [List.length_drop, List.length_take]; rfl)) ?_; (with_reducible refine (codec_Text.calls t362 t366 t367 _ A50.out).mono ?_); rintro e w69 ⟨rfl, hb⟩; refine ⟨_, rfl, ?_⟩; have n0_ := Aside0.mk (Kd.R_below (by (with_reducible repeat (first | apply Kd.R_alloc | apply Kd.R_drewN | apply Kd.R_drew)); exact (Kd.R_mono (Kd.R_far (p := ⟨gb352, 1, none⟩) (Kd.R_far (p := ⟨gb352, 0, none⟩) (Kd.R_types HO_59.out BK352.out (by decide)) (fun _ hk => hk.2) (.string t363)) (fun _ hk => hk.2) (.int .i64 t364)) (fun _ h_ => h_.1))) hb); have n1_ := Aside0.mk (Kd.V_below (by (with_reducible repeat (first | apply Kd.V_alloc | apply Kd.V_drewN | apply Kd.V_drew)); exact (Kd.V_mono (Kd.V_far (p := ⟨gb352, 1, none⟩) (Kd.V_far (p := ⟨gb352, 0, none⟩) (Kd.V_mono HO348.out (fun k_ hk => (⟨hk, hk.1.2⟩ : _ ∧ k_ ≠ gb352))) (fun _ hk => hk.2) (.string t363)) (fun _ hk => hk.2) (.int .i64 t364)) (fun _ h_ => h_.1))) hb); have n2_ := Aside0.mk (Kd.V_below (by (with_reducible repeat (first | apply Kd.V_alloc | apply Kd.V_drewN | apply Kd.V_drew)); exact (Kd.V_mono (Kd.V_far (p := ⟨gb352, 1, none⟩) (Kd.V_far (p := ⟨gb352, 0, none⟩) (Kd.V_mono HO357.out (fun k_ hk => (⟨hk, hk.1.2⟩ : _ ∧ k_ ≠ gb352))) (fun _ hk => hk.2) (.string t363)) (fun _ hk => hk.2) (.int .i64 t364)) (fun _ h_ => h_.1))) hb); have n3_ := Aside0.mk (blk_below (g := gb352) (o := .cells #[.string t363, .int .i64 t364] 24 (0, 0)) (by (with_reducible repeat (first | refine blk_drewN ?_ _ | refine blk_drew ?_ | refine blk_alloc ?_ _)); refine blk_put (cs := #[.string t363, .int .i64 t350]) ?_ 1 _ rfl; (with_reducible repeat (first | refine blk_drewN ?_ _ | refine blk_drew ?_ | refine blk_alloc ?_ _)); refine blk_put (cs := #[.string t349, .int .i64 t350]) ?_ 0 _ rfl; (with_reducible repeat (first | refine blk_drewN ?_ _ | refine blk_drew ?_ | refine blk_alloc ?_ _)); exact BK352.out) hb); have n4_ := Aside0.mk (blk_below (g := gb361) (o := .cells #[.string t358, .int .i64 t359] 24 (0, 0)) (by (with_reducible repeat (first | refine blk_drewN ?_ _ | refine blk_drew ?_ | refine blk_alloc ?_ _)); refine blk_far ?_ NB361_352.out _; (with_reducible repeat (first | refine blk_drewN ?_ _ | refine blk_drew ?_ | refine blk_alloc ?_ _)); refine blk_far ?_ NB361_352.out _; (with_reducible repeat (first | refine blk_drewN ?_ _ | refine blk_drew ?_ | refine blk_alloc ?_ _)); exact BK361.out) hb); have n5_ := Aside0.mk (below_step (by repeat (first | (with_reducible first | exact HB.out | apply below_alloc | apply pw_below_drewN | apply below_drew1 | refine below_set ?_ GE352.out | refine below_set ?_ GE361.out) | exact HB.out)) hb); clear HO_59; clear HO348; clear HO357; clear BK352; clear BK361; clear HB; have HO_59 := n0_; have HO348 := n1_; have HO357 := n2_; have BK352 := n3_; have BK361 := n4_; have HB := n5_; clear n0_ n1_ n2_ n3_ n4_ n5_; (try clear hb); (try clear hb2); (try clear hk); (try clear hi); have hcz70_0 : w69.cell? ⟨gb352, 0, none⟩ = some (.string t363) := (blk_cell BK352.out 0).trans rfl; have hcz70_1 : w69.cell? ⟨gb352, 1, none⟩ = some (.int .i64 t364) := (blk_cell BK352.out 1).trans rfl; have hfz70_0 := blk_frozen BK352.out 0; have hfz70_1 := blk_frozen BK352.out 1))
                                                                go_roundg k1
                                                                case measure => have := HK1.out; omega
                                                                case rel => exact ⟨(wrap64 (x61_1 + 1)), (by first | rfl | (simp; done) | (simp [*]; done)), H', ⟨by have := HK1.out; omega⟩, ⟨by (with_reducible repeat (first | apply Kd.R_alloc | apply Kd.R_drewN | apply Kd.R_drew)); exact HO_59.out⟩, ⟨by repeat (first | (with_reducible first | exact HB.out | apply below_alloc | apply pw_below_drewN | apply below_drew1 | refine below_set ?_ GE352.out | refine below_set ?_ GE361.out) | exact HB.out)⟩⟩
                                                              · rw [if_neg c55] at H
                                                                exact absurd H (by simp)
                                                            · rw [if_neg c54] at H
                                                              exact absurd H (by simp)
                                                          · rw [if_neg c53] at H
                                                            exact absurd H (by simp)
                                                      · rw [if_neg c51] at H
                                                        exact absurd H (by simp)
                                                    · rw [if_neg c49] at H
                                                      have c49b0 : (t365 == 0) = false := beq_eq_false_iff_ne.mpr c49
                                                      have c49b1 : (t365 != 0) = true := bne_iff_ne.mpr c49
                                                      have H' := Aside0.mk H
                                                      clear H
                                                      have p345 : 0 ≤ (x61_1 : Int) := of_decide_eq_true (by first | (with_reducible assumption) | assumption)
                                                      have q345 : x61_1 < (y342.length : Int) := of_decide_eq_true (by first | (with_reducible assumption) | assumption)
                                                      obtain ⟨ad345, e345, hx345_0⟩ := Kd.at_string (Kd.R_reads' HO_59.out).2.2 x61_1 p345 q345
                                                      cases e345
                                                      replace p345 := eq_true p345
                                                      replace q345 := eq_true q345
                                                      go_wp2_with (first | ((with_reducible refine gate_callee (f := 24) rfl ?_); refine goesL_ (some 68) rfl rfl Try.func24 (by kernel_rfl) rfl #[.agg #[.string (rdOf ByteArray.empty y342 x61_1), .int .i64 0]] rfl (by (try simp only [List.map_toArray, List.map_cons, List.map_nil]); first | done | rfl | (simp only [List.length_drop, List.length_take]; rfl)) ?_; (with_reducible refine (codec_TakeList.calls k1 (rdOf ByteArray.empty y342 x61_1) 0 t346 t349 t350 t351 _ A33.out).mono ?_); rintro e w71 ⟨v347, rfl, ho0, hb⟩; refine ⟨_, rfl, ?_⟩; have n0_ := Aside0.mk (Kd.R_below (by (with_reducible repeat (first | apply Kd.R_alloc | apply Kd.R_drewN | apply Kd.R_drew)); exact HO_59.out) hb); have n1_ := Aside0.mk (Kd.V_lower (Kd.V_mono (ok' := fun k_ => some k_ ≠ (.slice (some ad345) y342.length co29 : Value).ownBlock) ho0 (fun k_ hk_ => (Kd.fresh' (Kd.R_lt (by (with_reducible repeat (first | apply Kd.R_alloc | apply Kd.R_drewN | apply Kd.R_drew)); exact HO_59.out)) k_ hk_))) (below_size (by repeat (first | (with_reducible first | exact HB.out | apply below_alloc | apply pw_below_drewN | apply below_drew1) | exact HB.out)))); have n2_ := Aside0.mk (below_step (by repeat (first | (with_reducible first | exact HB.out | apply below_alloc | apply pw_below_drewN | apply below_drew1) | exact HB.out)) hb); clear HO_59; clear HB; have HO_59 := n0_; have HO348 := n1_; have HB := n2_; clear n0_ n1_ n2_; (try clear hb); (try clear hb2); (try clear hk); (try clear hi); (try clear ho0)) | ((with_reducible refine gate_dst (N := 16) rfl ?_); (try (refine gate_guard (by rfl) ?_; dsimp only)); refine box_event ?hg (N := 16) ?hd (cs := #[.string (⟨#[]⟩ : ByteArray), .int .i64 0]) (t := 24) ?hr ?_; (case hd => rfl); (case hg => rfl); (case hr => first | (go_simp; done) | (go_simp; rfl)); intro gb352 hg w72 hbox hb; have n0_ := Aside0.mk (Kd.R_below (by (with_reducible repeat (first | apply Kd.R_alloc | apply Kd.R_drewN | apply Kd.R_drew)); exact HO_59.out) hb); have n1_ := Aside0.mk (Kd.V_below (Kd.V_elderB (by (with_reducible repeat (first | apply Kd.V_alloc | apply Kd.V_drewN | apply Kd.V_drew)); exact HO348.out) gb352 (Nat.le_of_eq hg.symm)) hb); have n2_ := Aside0.mk (below_step (by repeat (first | (with_reducible first | exact HB.out | apply below_alloc | apply pw_below_drewN | apply below_drew1) | exact HB.out)) hb); have n3_ := Aside0.mk (hbox); have n4_ := Aside0.mk ((by rw [hg]; exact (below_size (by repeat (first | (with_reducible first | exact HB.out | apply below_alloc | apply pw_below_drewN | apply below_drew1) | exact HB.out))) : w.heap.size ≤ gb352)); have n5_ := Aside0.mk ((by rw [hg]; exact (below_size (by repeat (first | (with_reducible first | exact HB.out | apply below_alloc | apply pw_below_drewN | apply below_drew1) | exact HB.out))) : w.heap.size ≤ gb352)); clear HO_59; clear HO348; clear HB; have HO_59 := n0_; have HO348 := n1_; have HB := n2_; have BK352 := n3_; have GW352 := n4_; have GE352 := n5_; clear n0_ n1_ n2_ n3_ n4_ n5_; clear hb hbox hg; have hcz73_0 : w72.cell? ⟨gb352, 0, none⟩ = some (.string (⟨#[]⟩ : ByteArray)) := (blk_cell BK352.out 0).trans rfl; have hcz73_1 : w72.cell? ⟨gb352, 1, none⟩ = some (.int .i64 0) := (blk_cell BK352.out 1).trans rfl; have hfz73_0 := blk_frozen BK352.out 0; have hfz73_1 := blk_frozen BK352.out 1; obtain ⟨Ao74, co74, eo74⟩ := Kd.V_slice HO348.out; subst eo74) | ((with_reducible refine gate_callee (f := 14) rfl ?_); refine goesL_ (some 76) rfl rfl Try.func14 (by kernel_rfl) rfl #[.slice Ao74 t346.length co74] rfl (by (try simp only [List.map_toArray, List.map_cons, List.map_nil]); first | done | rfl | (simp only [List.length_drop, List.length_take]; rfl)) ?_; (with_reducible refine (codec_List.calls _ _ t346 t353 t354 _ ?side1 ?side2 A35.out).mono ?_); (case side1 => refine (Kd.V_reads' (e := 9) (base := w.heap.size) (ok := fun k_ => (some k_ ≠ (.slice (some ad345) y342.length co29 : Value).ownBlock ∧ k_ ≠ gb352)) (n := t346.length) (c := co74) ?_).2.2; exact (by (with_reducible repeat (first | apply Kd.V_alloc | apply Kd.V_drewN | apply Kd.V_drew)); exact (Kd.V_mono (Kd.V_far (p := ⟨gb352, 1, none⟩) (Kd.V_far (p := ⟨gb352, 0, none⟩) (Kd.V_mono HO348.out (fun k_ hk => (⟨hk, hk.2⟩ : _ ∧ k_ ≠ gb352))) (fun _ hk => hk.2) (.string t349)) (fun _ hk => hk.2) (.int .i64 t350)) (fun _ h_ => h_.1)))); (case side2 => exact (Kd.V_reads' HO348.out).2.1); rintro e w75 ⟨rfl, hb⟩; refine ⟨_, rfl, ?_⟩; have n0_ := Aside0.mk (Kd.R_below (by (with_reducible repeat (first | apply Kd.R_alloc | apply Kd.R_drewN | apply Kd.R_drew)); exact (Kd.R_mono (Kd.R_far (p := ⟨gb352, 1, none⟩) (Kd.R_far (p := ⟨gb352, 0, none⟩) (Kd.R_types HO_59.out BK352.out (by decide)) (fun _ hk => hk.2) (.string t349)) (fun _ hk => hk.2) (.int .i64 t350)) (fun _ h_ => h_.1))) hb); have n1_ := Aside0.mk (Kd.V_below (by (with_reducible repeat (first | apply Kd.V_alloc | apply Kd.V_drewN | apply Kd.V_drew)); exact (Kd.V_mono (Kd.V_far (p := ⟨gb352, 1, none⟩) (Kd.V_far (p := ⟨gb352, 0, none⟩) (Kd.V_mono HO348.out (fun k_ hk => (⟨hk, hk.2⟩ : _ ∧ k_ ≠ gb352))) (fun _ hk => hk.2) (.string t349)) (fun _ hk => hk.2) (.int .i64 t350)) (fun _ h_ => h_.1))) hb); have n2_ := Aside0.mk (blk_below (g := gb352) (o := .cells #[.string t349, .int .i64 t350] 24 (0, 0)) (by (with_reducible repeat (first | refine blk_drewN ?_ _ | refine blk_drew ?_ | refine blk_alloc ?_ _)); refine blk_put (cs := #[.string t349, .int .i64 0]) ?_ 1 _ rfl; (with_reducible repeat (first | refine blk_drewN ?_ _ | refine blk_drew ?_ | refine blk_alloc ?_ _)); refine blk_put (cs := #[.string (⟨#[]⟩ : ByteArray), .int .i64 0]) ?_ 0 _ rfl; (with_reducible repeat (first | refine blk_drewN ?_ _ | refine blk_drew ?_ | refine blk_alloc ?_ _)); exact BK352.out) hb); have n3_ := Aside0.mk (below_step (by repeat (first | (with_reducible first | exact HB.out | apply below_alloc | apply pw_below_drewN | apply below_drew1 | refine below_set ?_ GE352.out) | exact HB.out)) hb); clear HO_59; clear HO348; clear BK352; clear HB; have HO_59 := n0_; have HO348 := n1_; have BK352 := n2_; have HB := n3_; clear n0_ n1_ n2_ n3_; (try clear hb); (try clear hb2); (try clear hk); (try clear hi); have hcz76_0 : w75.cell? ⟨gb352, 0, none⟩ = some (.string t349) := (blk_cell BK352.out 0).trans rfl; have hcz76_1 : w75.cell? ⟨gb352, 1, none⟩ = some (.int .i64 t350) := (blk_cell BK352.out 1).trans rfl; have hfz76_0 := blk_frozen BK352.out 0; have hfz76_1 := blk_frozen BK352.out 1) | ((with_reducible refine gate_callee (f := 24) rfl ?_); refine goesL_ (some 96) rfl rfl Try.func24 (by kernel_rfl) rfl #[.agg #[.string ((rdOf ByteArray.empty y342 x61_1).extract 0 ((ji38) : Int).toNat), .int .i64 0]] rfl (by (try simp only [List.map_toArray, List.map_cons, List.map_nil]); first | done | (simp only [hji38]; rfl) | rfl | (simp only [List.length_drop, List.length_take]; rfl)) ?_; (with_reducible refine (codec_TakeList.calls k1 ((rdOf ByteArray.empty y342 x61_1).extract 0 ((ji38) : Int).toNat) 0 t355 t358 t359 t360 _ A41.out).mono ?_); rintro e w77 ⟨v356, rfl, ho0, hb⟩; refine ⟨_, rfl, ?_⟩; have n0_ := Aside0.mk (Kd.R_below (by (with_reducible repeat (first | apply Kd.R_alloc | apply Kd.R_drewN | apply Kd.R_drew)); exact HO_59.out) hb); have n1_ := Aside0.mk (Kd.V_below (by (with_reducible repeat (first | apply Kd.V_alloc | apply Kd.V_drewN | apply Kd.V_drew)); exact HO348.out) hb); have n2_ := Aside0.mk (Kd.V_lower (Kd.V_mono (ok' := fun k_ => some k_ ≠ (.slice (some ad345) y342.length co29 : Value).ownBlock ∧ k_ ≠ gb352) ho0 (fun k_ hk_ => ⟨(Kd.fresh' (Kd.R_lt (by (with_reducible repeat (first | apply Kd.R_alloc | apply Kd.R_drewN | apply Kd.R_drew)); exact HO_59.out)) k_ hk_), (Kd.freshB (g := gb352) (o := .cells #[.string t349, .int .i64 t350] 24 (0, 0)) (by (with_reducible repeat (first | refine blk_drewN ?_ _ | refine blk_drew ?_ | refine blk_alloc ?_ _)); exact BK352.out) k_ hk_)⟩)) (below_size (by repeat (first | (with_reducible first | exact HB.out | apply below_alloc | apply pw_below_drewN | apply below_drew1 | refine below_set ?_ GE352.out) | exact HB.out)))); have n3_ := Aside0.mk (blk_below (g := gb352) (o := .cells #[.string t349, .int .i64 t350] 24 (0, 0)) (by (with_reducible repeat (first | refine blk_drewN ?_ _ | refine blk_drew ?_ | refine blk_alloc ?_ _)); exact BK352.out) hb); have n4_ := Aside0.mk (below_step (by repeat (first | (with_reducible first | exact HB.out | apply below_alloc | apply pw_below_drewN | apply below_drew1 | refine below_set ?_ GE352.out) | exact HB.out)) hb); clear HO_59; clear HO348; clear BK352; clear HB; have HO_59 := n0_; have HO348 := n1_; have HO357 := n2_; have BK352 := n3_; have HB := n4_; clear n0_ n1_ n2_ n3_ n4_; (try clear hb); (try clear hb2); (try clear hk); (try clear hi); (try clear ho0)) | ((with_reducible refine gate_dst (N := 21) rfl ?_); (try (refine gate_guard (by rfl) ?_; dsimp only)); refine box_event ?hg (N := 21) ?hd (cs := #[.string (⟨#[]⟩ : ByteArray), .int .i64 0]) (t := 24) ?hr ?_; (case hd => rfl); (case hg => rfl); (case hr => first | (go_simp; done) | (go_simp; rfl)); intro gb361 hg w78 hbox hb; have n0_ := Aside0.mk (Kd.R_below (by (with_reducible repeat (first | apply Kd.R_alloc | apply Kd.R_drewN | apply Kd.R_drew)); exact HO_59.out) hb); have n1_ := Aside0.mk (Kd.V_below (Kd.V_elderB (by (with_reducible repeat (first | apply Kd.V_alloc | apply Kd.V_drewN | apply Kd.V_drew)); exact HO348.out) gb361 (Nat.le_of_eq hg.symm)) hb); have n2_ := Aside0.mk (Kd.V_below (Kd.V_elderB (by (with_reducible repeat (first | apply Kd.V_alloc | apply Kd.V_drewN | apply Kd.V_drew)); exact HO357.out) gb361 (Nat.le_of_eq hg.symm)) hb); have n3_ := Aside0.mk (blk_below (g := gb352) (o := .cells #[.string t349, .int .i64 t350] 24 (0, 0)) (by (with_reducible repeat (first | refine blk_drewN ?_ _ | refine blk_drew ?_ | refine blk_alloc ?_ _)); exact BK352.out) hb); have n4_ := Aside0.mk (below_step (by repeat (first | (with_reducible first | exact HB.out | apply below_alloc | apply pw_below_drewN | apply below_drew1 | refine below_set ?_ GE352.out) | exact HB.out)) hb); have n5_ := Aside0.mk (hbox); have n6_ := Aside0.mk ((by rw [hg]; exact (below_size (by repeat (first | (with_reducible first | exact HB.out | apply below_alloc | apply pw_below_drewN | apply below_drew1 | refine below_set ?_ GE352.out) | exact HB.out))) : w.heap.size ≤ gb361)); have n7_ := Aside0.mk ((by rw [hg]; exact (below_size (by repeat (first | (with_reducible first | exact HB.out | apply below_alloc | apply pw_below_drewN | apply below_drew1 | refine below_set ?_ GE352.out) | exact HB.out))) : w.heap.size ≤ gb361)); have n8_ := Aside0.mk ((by rw [hg]; exact Nat.ne_of_lt (blk_lt (g := gb352) (o := .cells #[.string t349, .int .i64 t350] 24 (0, 0)) (by (with_reducible repeat (first | refine blk_drewN ?_ _ | refine blk_drew ?_ | refine blk_alloc ?_ _)); exact BK352.out)) : gb352 ≠ gb361)); have n9_ := Aside0.mk ((by rw [hg]; exact Nat.ne_of_gt (blk_lt (g := gb352) (o := .cells #[.string t349, .int .i64 t350] 24 (0, 0)) (by (with_reducible repeat (first | refine blk_drewN ?_ _ | refine blk_drew ?_ | refine blk_alloc ?_ _)); exact BK352.out)) : gb361 ≠ gb352)); clear HO_59; clear HO348; clear HO357; clear BK352; clear HB; have HO_59 := n0_; have HO348 := n1_; have HO357 := n2_; have BK352 := n3_; have HB := n4_; have BK361 := n5_; have GW361 := n6_; have GE361 := n7_; have NB352_361 := n8_; have NB361_352 := n9_; clear n0_ n1_ n2_ n3_ n4_ n5_ n6_ n7_ n8_ n9_; clear hb hbox hg; have hnb79 := NB361_352.out; have hnc79 := NB352_361.out; have hcz80_0 : w78.cell? ⟨gb361, 0, none⟩ = some (.string (⟨#[]⟩ : ByteArray)) := (blk_cell BK361.out 0).trans rfl; have hcz80_1 : w78.cell? ⟨gb361, 1, none⟩ = some (.int .i64 0) := (blk_cell BK361.out 1).trans rfl; have hfz80_0 := blk_frozen BK361.out 0; have hfz80_1 := blk_frozen BK361.out 1; have hcz81_0 : w78.cell? ⟨gb352, 0, none⟩ = some (.string t349) := (blk_cell BK352.out 0).trans rfl; have hcz81_1 : w78.cell? ⟨gb352, 1, none⟩ = some (.int .i64 t350) := (blk_cell BK352.out 1).trans rfl; have hfz81_0 := blk_frozen BK352.out 0; have hfz81_1 := blk_frozen BK352.out 1) | ((with_reducible refine gate_callee (f := 22) rfl ?_); refine goesL_ (some 122) rfl rfl Try.func22 (by kernel_rfl) rfl #[.agg #[.string (rdOf ByteArray.empty y342 x61_1), .int .i64 0]] rfl (by (try simp only [List.map_toArray, List.map_cons, List.map_nil]); first | done | rfl | (simp only [List.length_drop, List.length_take]; rfl)) ?_; (with_reducible refine (codec_TakeText.calls k1 (rdOf ByteArray.empty y342 x61_1) 0 t362 t363 t364 t365 _ A48.out).mono ?_); rintro e w82 ⟨rfl, hb⟩; refine ⟨_, rfl, ?_⟩; have n0_ := Aside0.mk (Kd.R_below (by (with_reducible repeat (first | apply Kd.R_alloc | apply Kd.R_drewN | apply Kd.R_drew)); exact (Kd.R_mono (Kd.R_far (p := ⟨gb361, 1, none⟩) (Kd.R_far (p := ⟨gb361, 0, none⟩) (Kd.R_types HO_59.out BK361.out (by decide)) (fun _ hk => hk.2) (.string t358)) (fun _ hk => hk.2) (.int .i64 t359)) (fun _ h_ => h_.1))) hb); have n1_ := Aside0.mk (Kd.V_below (by (with_reducible repeat (first | apply Kd.V_alloc | apply Kd.V_drewN | apply Kd.V_drew)); exact (Kd.V_mono (Kd.V_far (p := ⟨gb361, 1, none⟩) (Kd.V_far (p := ⟨gb361, 0, none⟩) (Kd.V_mono HO348.out (fun k_ hk => (⟨hk, hk.2⟩ : _ ∧ k_ ≠ gb361))) (fun _ hk => hk.2) (.string t358)) (fun _ hk => hk.2) (.int .i64 t359)) (fun _ h_ => h_.1))) hb); have n2_ := Aside0.mk (Kd.V_below (by (with_reducible repeat (first | apply Kd.V_alloc | apply Kd.V_drewN | apply Kd.V_drew)); exact (Kd.V_mono (Kd.V_far (p := ⟨gb361, 1, none⟩) (Kd.V_far (p := ⟨gb361, 0, none⟩) (Kd.V_mono HO357.out (fun k_ hk => (⟨hk, hk.2⟩ : _ ∧ k_ ≠ gb361))) (fun _ hk => hk.2) (.string t358)) (fun _ hk => hk.2) (.int .i64 t359)) (fun _ h_ => h_.1))) hb); have n3_ := Aside0.mk (blk_below (g := gb352) (o := .cells #[.string t349, .int .i64 t350] 24 (0, 0)) (by (with_reducible repeat (first | refine blk_drewN ?_ _ | refine blk_drew ?_ | refine blk_alloc ?_ _)); refine blk_far ?_ NB352_361.out _; (with_reducible repeat (first | refine blk_drewN ?_ _ | refine blk_drew ?_ | refine blk_alloc ?_ _)); refine blk_far ?_ NB352_361.out _; (with_reducible repeat (first | refine blk_drewN ?_ _ | refine blk_drew ?_ | refine blk_alloc ?_ _)); exact BK352.out) hb); have n4_ := Aside0.mk (blk_below (g := gb361) (o := .cells #[.string t358, .int .i64 t359] 24 (0, 0)) (by (with_reducible repeat (first | refine blk_drewN ?_ _ | refine blk_drew ?_ | refine blk_alloc ?_ _)); refine blk_put (cs := #[.string t358, .int .i64 0]) ?_ 1 _ rfl; (with_reducible repeat (first | refine blk_drewN ?_ _ | refine blk_drew ?_ | refine blk_alloc ?_ _)); refine blk_put (cs := #[.string (⟨#[]⟩ : ByteArray), .int .i64 0]) ?_ 0 _ rfl; (with_reducible repeat (first | refine blk_drewN ?_ _ | refine blk_drew ?_ | refine blk_alloc ?_ _)); exact BK361.out) hb); have n5_ := Aside0.mk (below_step (by repeat (first | (with_reducible first | exact HB.out | apply below_alloc | apply pw_below_drewN | apply below_drew1 | refine below_set ?_ GE352.out | refine below_set ?_ GE361.out) | exact HB.out)) hb); clear HO_59; clear HO348; clear HO357; clear BK352; clear BK361; clear HB; have HO_59 := n0_; have HO348 := n1_; have HO357 := n2_; have BK352 := n3_; have BK361 := n4_; have HB := n5_; clear n0_ n1_ n2_ n3_ n4_ n5_; (try clear hb); (try clear hb2); (try clear hk); (try clear hi); have hcz83_0 : w82.cell? ⟨gb352, 0, none⟩ = some (.string t349) := (blk_cell BK352.out 0).trans rfl; have hcz83_1 : w82.cell? ⟨gb352, 1, none⟩ = some (.int .i64 t350) := (blk_cell BK352.out 1).trans rfl; have hfz83_0 := blk_frozen BK352.out 0; have hfz83_1 := blk_frozen BK352.out 1))
                                                      go_roundg k1
                                                      case measure => have := HK1.out; omega
                                                      case rel => exact ⟨(wrap64 (x61_1 + 1)), (by first | rfl | (simp; done) | (simp [*]; done)), H', ⟨by have := HK1.out; omega⟩, ⟨by (with_reducible repeat (first | apply Kd.R_alloc | apply Kd.R_drewN | apply Kd.R_drew)); exact Kd.R_mono (Kd.R_far (p := ⟨gb352, 1, none⟩) (Kd.R_far (p := ⟨gb352, 0, none⟩) (Kd.R_types HO_59.out BK352.out (by decide)) (fun _ hk => hk.2) (.string t363)) (fun _ hk => hk.2) (.int .i64 t364)) (fun _ hk => trivial)⟩, ⟨by repeat (first | (with_reducible first | exact HB.out | apply below_alloc | apply pw_below_drewN | apply below_drew1 | refine below_set ?_ GE352.out | refine below_set ?_ GE361.out) | exact HB.out)⟩⟩
                                                  · rw [if_neg c47] at H
                                                    exact absurd H (by simp)
                                                · rw [if_neg c46] at H
                                                  exact absurd H (by simp)
                                              · rw [if_neg c45] at H
                                                exact absurd H (by simp)
                                            · rw [if_neg c44] at H
                                              exact absurd H (by simp)
                                          · rw [if_neg c43] at H
                                            exact absurd H (by simp)
                                        · rw [if_neg c42] at H
                                          exact absurd H (by simp)
                                      · rw [if_neg c40] at H
                                        exact absurd H (by simp)
                                    · rw [if_neg c39] at H
                                      exact absurd H (by simp)
                              · rw [if_neg c34] at H
                                have c34b0 : (t351 == 0) = false := beq_eq_false_iff_ne.mpr c34
                                have c34b1 : (t351 != 0) = true := bne_iff_ne.mpr c34
                                replace H := Option.bind_eq_some_iff.mp H
                                obtain ⟨⟨t368, t369, t370, t371⟩, A840, H⟩ := H
                                replace H : (if t371 = 0 then ((codec_Text.f t368).bind fun bt372 => (if bt372.2 = 0 then (if t370 > ((rdOf ByteArray.empty y342 x61_1).size : Int) then (none) else (if 0 ≤ t370 then (if t370 ≤ ((rdOf ByteArray.empty y342 x61_1).size : Int) then (if bt372.1.toList = ((rdOf ByteArray.empty y342 x61_1).extract 0 (t370 : Int).toNat).toList then (columbariumlaw10_CodecOne.l0 k1 t335 y342 (y342.length : Int) (wrap64 (x61_1 + 1))) else (none)) else (none)) else (none))) else (none))) else (columbariumlaw10_CodecOne.l0 k1 t335 y342 (y342.length : Int) (wrap64 (x61_1 + 1)))) = some r := H
                                have A84 := Aside0.mk A840
                                clear A840
                                by_cases c85 : t371 = 0
                                · rw [if_pos c85] at H
                                  have c85b0 : (t371 == 0) = true := beq_iff_eq.mpr c85
                                  have c85b1 : (t371 != 0) = false := bne_eq_false_iff_eq.mpr c85
                                  clear c85
                                  replace H := Option.bind_eq_some_iff.mp H
                                  obtain ⟨⟨t372, t373⟩, A860, H⟩ := H
                                  replace H : (if t373 = 0 then (if t370 > ((rdOf ByteArray.empty y342 x61_1).size : Int) then (none) else (if 0 ≤ t370 then (if t370 ≤ ((rdOf ByteArray.empty y342 x61_1).size : Int) then (if t372.toList = ((rdOf ByteArray.empty y342 x61_1).extract 0 (t370 : Int).toNat).toList then (columbariumlaw10_CodecOne.l0 k1 t335 y342 (y342.length : Int) (wrap64 (x61_1 + 1))) else (none)) else (none)) else (none))) else (none)) = some r := H
                                  have A86 := Aside0.mk A860
                                  clear A860
                                  by_cases c87 : t373 = 0
                                  · rw [if_pos c87] at H
                                    have c87b0 : (t373 == 0) = true := beq_iff_eq.mpr c87
                                    have c87b1 : (t373 != 0) = false := bne_eq_false_iff_eq.mpr c87
                                    clear c87
                                    by_cases c88 : t370 > ((rdOf ByteArray.empty y342 x61_1).size : Int)
                                    · rw [if_pos c88] at H
                                      exact absurd H (by simp)
                                    · rw [if_neg c88] at H
                                      have c88b0 : decide (((rdOf ByteArray.empty y342 x61_1).size : Int) < t370) = false := decide_eq_false c88
                                      clear c88
                                      by_cases c89 : 0 ≤ t370
                                      · rw [if_pos c89] at H
                                        have c89b0 := eq_true c89
                                        have c89b1 : decide (0 ≤ t370) = true := decide_eq_true c89
                                        clear c89
                                        by_cases c90 : t370 ≤ ((rdOf ByteArray.empty y342 x61_1).size : Int)
                                        · rw [if_pos c90] at H
                                          have c90b0 := eq_true c90
                                          have c90b1 : decide (t370 ≤ ((rdOf ByteArray.empty y342 x61_1).size : Int)) = true := decide_eq_true c90
                                          clear c90
                                          by_cases c91 : t372.toList = ((rdOf ByteArray.empty y342 x61_1).extract 0 (t370 : Int).toNat).toList
                                          · rw [if_pos c91] at H
                                            have c91b0 : (t372.toList == ((rdOf ByteArray.empty y342 x61_1).extract 0 (t370 : Int).toNat).toList) = true := beq_iff_eq.mpr c91
                                            have c91b1 : (t372.toList != ((rdOf ByteArray.empty y342 x61_1).extract 0 (t370 : Int).toNat).toList) = false := bne_eq_false_iff_eq.mpr c91
                                            clear c91
                                            have H' := Aside0.mk H
                                            clear H
                                            have p345 : 0 ≤ (x61_1 : Int) := of_decide_eq_true (by first | (with_reducible assumption) | assumption)
                                            have q345 : x61_1 < (y342.length : Int) := of_decide_eq_true (by first | (with_reducible assumption) | assumption)
                                            obtain ⟨ad345, e345, hx345_0⟩ := Kd.at_string (Kd.R_reads' HO_59.out).2.2 x61_1 p345 q345
                                            cases e345
                                            replace p345 := eq_true p345
                                            replace q345 := eq_true q345
                                            go_wp2_with (first | ((with_reducible refine gate_callee (f := 24) rfl ?_); refine goesL_ (some 68) rfl rfl Try.func24 (by kernel_rfl) rfl #[.agg #[.string (rdOf ByteArray.empty y342 x61_1), .int .i64 0]] rfl (by (try simp only [List.map_toArray, List.map_cons, List.map_nil]); first | done | rfl | (simp only [List.length_drop, List.length_take]; rfl)) ?_; (with_reducible refine (codec_TakeList.calls k1 (rdOf ByteArray.empty y342 x61_1) 0 t346 t349 t350 t351 _ A33.out).mono ?_); rintro e w92 ⟨v347, rfl, ho0, hb⟩; refine ⟨_, rfl, ?_⟩; have n0_ := Aside0.mk (Kd.R_below (by (with_reducible repeat (first | apply Kd.R_alloc | apply Kd.R_drewN | apply Kd.R_drew)); exact HO_59.out) hb); have n1_ := Aside0.mk (Kd.V_lower (Kd.V_mono (ok' := fun k_ => some k_ ≠ (.slice (some ad345) y342.length co29 : Value).ownBlock) ho0 (fun k_ hk_ => (Kd.fresh' (Kd.R_lt (by (with_reducible repeat (first | apply Kd.R_alloc | apply Kd.R_drewN | apply Kd.R_drew)); exact HO_59.out)) k_ hk_))) (below_size (by repeat (first | (with_reducible first | exact HB.out | apply below_alloc | apply pw_below_drewN | apply below_drew1) | exact HB.out)))); have n2_ := Aside0.mk (below_step (by repeat (first | (with_reducible first | exact HB.out | apply below_alloc | apply pw_below_drewN | apply below_drew1) | exact HB.out)) hb); clear HO_59; clear HB; have HO_59 := n0_; have HO348 := n1_; have HB := n2_; clear n0_ n1_ n2_; (try clear hb); (try clear hb2); (try clear hk); (try clear hi); (try clear ho0)) | ((with_reducible refine gate_dst (N := 16) rfl ?_); (try (refine gate_guard (by rfl) ?_; dsimp only)); refine box_event ?hg (N := 16) ?hd (cs := #[.string (⟨#[]⟩ : ByteArray), .int .i64 0]) (t := 24) ?hr ?_; (case hd => rfl); (case hg => rfl); (case hr => first | (go_simp; done) | (go_simp; rfl)); intro gb352 hg w93 hbox hb; have n0_ := Aside0.mk (Kd.R_below (by (with_reducible repeat (first | apply Kd.R_alloc | apply Kd.R_drewN | apply Kd.R_drew)); exact HO_59.out) hb); have n1_ := Aside0.mk (Kd.V_below (Kd.V_elderB (by (with_reducible repeat (first | apply Kd.V_alloc | apply Kd.V_drewN | apply Kd.V_drew)); exact HO348.out) gb352 (Nat.le_of_eq hg.symm)) hb); have n2_ := Aside0.mk (below_step (by repeat (first | (with_reducible first | exact HB.out | apply below_alloc | apply pw_below_drewN | apply below_drew1) | exact HB.out)) hb); have n3_ := Aside0.mk (hbox); have n4_ := Aside0.mk ((by rw [hg]; exact (below_size (by repeat (first | (with_reducible first | exact HB.out | apply below_alloc | apply pw_below_drewN | apply below_drew1) | exact HB.out))) : w.heap.size ≤ gb352)); have n5_ := Aside0.mk ((by rw [hg]; exact (below_size (by repeat (first | (with_reducible first | exact HB.out | apply below_alloc | apply pw_below_drewN | apply below_drew1) | exact HB.out))) : w.heap.size ≤ gb352)); clear HO_59; clear HO348; clear HB; have HO_59 := n0_; have HO348 := n1_; have HB := n2_; have BK352 := n3_; have GW352 := n4_; have GE352 := n5_; clear n0_ n1_ n2_ n3_ n4_ n5_; clear hb hbox hg; have hcz94_0 : w93.cell? ⟨gb352, 0, none⟩ = some (.string (⟨#[]⟩ : ByteArray)) := (blk_cell BK352.out 0).trans rfl; have hcz94_1 : w93.cell? ⟨gb352, 1, none⟩ = some (.int .i64 0) := (blk_cell BK352.out 1).trans rfl; have hfz94_0 := blk_frozen BK352.out 0; have hfz94_1 := blk_frozen BK352.out 1) | ((with_reducible refine gate_callee (f := 22) rfl ?_); refine goesL_ (some 122) rfl rfl Try.func22 (by kernel_rfl) rfl #[.agg #[.string (rdOf ByteArray.empty y342 x61_1), .int .i64 0]] rfl (by (try simp only [List.map_toArray, List.map_cons, List.map_nil]); first | done | rfl | (simp only [List.length_drop, List.length_take]; rfl)) ?_; (with_reducible refine (codec_TakeText.calls k1 (rdOf ByteArray.empty y342 x61_1) 0 t368 t369 t370 t371 _ A84.out).mono ?_); rintro e w95 ⟨rfl, hb⟩; refine ⟨_, rfl, ?_⟩; have n0_ := Aside0.mk (Kd.R_below (by (with_reducible repeat (first | apply Kd.R_alloc | apply Kd.R_drewN | apply Kd.R_drew)); exact (Kd.R_mono (Kd.R_far (p := ⟨gb352, 1, none⟩) (Kd.R_far (p := ⟨gb352, 0, none⟩) (Kd.R_types HO_59.out BK352.out (by decide)) (fun _ hk => hk.2) (.string t349)) (fun _ hk => hk.2) (.int .i64 t350)) (fun _ h_ => h_.1))) hb); have n1_ := Aside0.mk (Kd.V_below (by (with_reducible repeat (first | apply Kd.V_alloc | apply Kd.V_drewN | apply Kd.V_drew)); exact (Kd.V_mono (Kd.V_far (p := ⟨gb352, 1, none⟩) (Kd.V_far (p := ⟨gb352, 0, none⟩) (Kd.V_mono HO348.out (fun k_ hk => (⟨hk, hk.2⟩ : _ ∧ k_ ≠ gb352))) (fun _ hk => hk.2) (.string t349)) (fun _ hk => hk.2) (.int .i64 t350)) (fun _ h_ => h_.1))) hb); have n2_ := Aside0.mk (blk_below (g := gb352) (o := .cells #[.string t349, .int .i64 t350] 24 (0, 0)) (by (with_reducible repeat (first | refine blk_drewN ?_ _ | refine blk_drew ?_ | refine blk_alloc ?_ _)); refine blk_put (cs := #[.string t349, .int .i64 0]) ?_ 1 _ rfl; (with_reducible repeat (first | refine blk_drewN ?_ _ | refine blk_drew ?_ | refine blk_alloc ?_ _)); refine blk_put (cs := #[.string (⟨#[]⟩ : ByteArray), .int .i64 0]) ?_ 0 _ rfl; (with_reducible repeat (first | refine blk_drewN ?_ _ | refine blk_drew ?_ | refine blk_alloc ?_ _)); exact BK352.out) hb); have n3_ := Aside0.mk (below_step (by repeat (first | (with_reducible first | exact HB.out | apply below_alloc | apply pw_below_drewN | apply below_drew1 | refine below_set ?_ GE352.out) | exact HB.out)) hb); clear HO_59; clear HO348; clear BK352; clear HB; have HO_59 := n0_; have HO348 := n1_; have BK352 := n2_; have HB := n3_; clear n0_ n1_ n2_ n3_; (try clear hb); (try clear hb2); (try clear hk); (try clear hi); have hcz96_0 : w95.cell? ⟨gb352, 0, none⟩ = some (.string t349) := (blk_cell BK352.out 0).trans rfl; have hcz96_1 : w95.cell? ⟨gb352, 1, none⟩ = some (.int .i64 t350) := (blk_cell BK352.out 1).trans rfl; have hfz96_0 := blk_frozen BK352.out 0; have hfz96_1 := blk_frozen BK352.out 1) | ((with_reducible refine gate_callee (f := 16) rfl ?_); refine goesL_ (some 130) rfl rfl Try.func16 (by kernel_rfl) rfl #[.string t368] rfl (by (try simp only [List.map_toArray, List.map_cons, List.map_nil]); first | done | rfl | (simp only [List.length_drop, List.length_take]; rfl)) ?_; (with_reducible refine (codec_Text.calls t368 t372 t373 _ A86.out).mono ?_); rintro e w97 ⟨rfl, hb⟩; refine ⟨_, rfl, ?_⟩; have n0_ := Aside0.mk (Kd.R_below (by (with_reducible repeat (first | apply Kd.R_alloc | apply Kd.R_drewN | apply Kd.R_drew)); exact (Kd.R_mono (Kd.R_far (p := ⟨gb352, 1, none⟩) (Kd.R_far (p := ⟨gb352, 0, none⟩) (Kd.R_types HO_59.out BK352.out (by decide)) (fun _ hk => hk.2) (.string t369)) (fun _ hk => hk.2) (.int .i64 t370)) (fun _ h_ => h_.1))) hb); have n1_ := Aside0.mk (Kd.V_below (by (with_reducible repeat (first | apply Kd.V_alloc | apply Kd.V_drewN | apply Kd.V_drew)); exact (Kd.V_mono (Kd.V_far (p := ⟨gb352, 1, none⟩) (Kd.V_far (p := ⟨gb352, 0, none⟩) (Kd.V_mono HO348.out (fun k_ hk => (⟨hk, hk.2⟩ : _ ∧ k_ ≠ gb352))) (fun _ hk => hk.2) (.string t369)) (fun _ hk => hk.2) (.int .i64 t370)) (fun _ h_ => h_.1))) hb); have n2_ := Aside0.mk (blk_below (g := gb352) (o := .cells #[.string t369, .int .i64 t370] 24 (0, 0)) (by (with_reducible repeat (first | refine blk_drewN ?_ _ | refine blk_drew ?_ | refine blk_alloc ?_ _)); refine blk_put (cs := #[.string t369, .int .i64 t350]) ?_ 1 _ rfl; (with_reducible repeat (first | refine blk_drewN ?_ _ | refine blk_drew ?_ | refine blk_alloc ?_ _)); refine blk_put (cs := #[.string t349, .int .i64 t350]) ?_ 0 _ rfl; (with_reducible repeat (first | refine blk_drewN ?_ _ | refine blk_drew ?_ | refine blk_alloc ?_ _)); exact BK352.out) hb); have n3_ := Aside0.mk (below_step (by repeat (first | (with_reducible first | exact HB.out | apply below_alloc | apply pw_below_drewN | apply below_drew1 | refine below_set ?_ GE352.out) | exact HB.out)) hb); clear HO_59; clear HO348; clear BK352; clear HB; have HO_59 := n0_; have HO348 := n1_; have BK352 := n2_; have HB := n3_; clear n0_ n1_ n2_ n3_; (try clear hb); (try clear hb2); (try clear hk); (try clear hi); have hcz98_0 : w97.cell? ⟨gb352, 0, none⟩ = some (.string t369) := (blk_cell BK352.out 0).trans rfl; have hcz98_1 : w97.cell? ⟨gb352, 1, none⟩ = some (.int .i64 t370) := (blk_cell BK352.out 1).trans rfl; have hfz98_0 := blk_frozen BK352.out 0; have hfz98_1 := blk_frozen BK352.out 1))
                                            go_roundg k1
                                            case measure => have := HK1.out; omega
                                            case rel => exact ⟨(wrap64 (x61_1 + 1)), (by first | rfl | (simp; done) | (simp [*]; done)), H', ⟨by have := HK1.out; omega⟩, ⟨by (with_reducible repeat (first | apply Kd.R_alloc | apply Kd.R_drewN | apply Kd.R_drew)); exact HO_59.out⟩, ⟨by repeat (first | (with_reducible first | exact HB.out | apply below_alloc | apply pw_below_drewN | apply below_drew1 | refine below_set ?_ GE352.out) | exact HB.out)⟩⟩
                                          · rw [if_neg c91] at H
                                            exact absurd H (by simp)
                                        · rw [if_neg c90] at H
                                          exact absurd H (by simp)
                                      · rw [if_neg c89] at H
                                        exact absurd H (by simp)
                                  · rw [if_neg c87] at H
                                    exact absurd H (by simp)
                                · rw [if_neg c85] at H
                                  have c85b0 : (t371 == 0) = false := beq_eq_false_iff_ne.mpr c85
                                  have c85b1 : (t371 != 0) = true := bne_iff_ne.mpr c85
                                  have H' := Aside0.mk H
                                  clear H
                                  have p345 : 0 ≤ (x61_1 : Int) := of_decide_eq_true (by first | (with_reducible assumption) | assumption)
                                  have q345 : x61_1 < (y342.length : Int) := of_decide_eq_true (by first | (with_reducible assumption) | assumption)
                                  obtain ⟨ad345, e345, hx345_0⟩ := Kd.at_string (Kd.R_reads' HO_59.out).2.2 x61_1 p345 q345
                                  cases e345
                                  replace p345 := eq_true p345
                                  replace q345 := eq_true q345
                                  go_wp2_with (first | ((with_reducible refine gate_callee (f := 24) rfl ?_); refine goesL_ (some 68) rfl rfl Try.func24 (by kernel_rfl) rfl #[.agg #[.string (rdOf ByteArray.empty y342 x61_1), .int .i64 0]] rfl (by (try simp only [List.map_toArray, List.map_cons, List.map_nil]); first | done | rfl | (simp only [List.length_drop, List.length_take]; rfl)) ?_; (with_reducible refine (codec_TakeList.calls k1 (rdOf ByteArray.empty y342 x61_1) 0 t346 t349 t350 t351 _ A33.out).mono ?_); rintro e w99 ⟨v347, rfl, ho0, hb⟩; refine ⟨_, rfl, ?_⟩; have n0_ := Aside0.mk (Kd.R_below (by (with_reducible repeat (first | apply Kd.R_alloc | apply Kd.R_drewN | apply Kd.R_drew)); exact HO_59.out) hb); have n1_ := Aside0.mk (Kd.V_lower (Kd.V_mono (ok' := fun k_ => some k_ ≠ (.slice (some ad345) y342.length co29 : Value).ownBlock) ho0 (fun k_ hk_ => (Kd.fresh' (Kd.R_lt (by (with_reducible repeat (first | apply Kd.R_alloc | apply Kd.R_drewN | apply Kd.R_drew)); exact HO_59.out)) k_ hk_))) (below_size (by repeat (first | (with_reducible first | exact HB.out | apply below_alloc | apply pw_below_drewN | apply below_drew1) | exact HB.out)))); have n2_ := Aside0.mk (below_step (by repeat (first | (with_reducible first | exact HB.out | apply below_alloc | apply pw_below_drewN | apply below_drew1) | exact HB.out)) hb); clear HO_59; clear HB; have HO_59 := n0_; have HO348 := n1_; have HB := n2_; clear n0_ n1_ n2_; (try clear hb); (try clear hb2); (try clear hk); (try clear hi); (try clear ho0)) | ((with_reducible refine gate_dst (N := 16) rfl ?_); (try (refine gate_guard (by rfl) ?_; dsimp only)); refine box_event ?hg (N := 16) ?hd (cs := #[.string (⟨#[]⟩ : ByteArray), .int .i64 0]) (t := 24) ?hr ?_; (case hd => rfl); (case hg => rfl); (case hr => first | (go_simp; done) | (go_simp; rfl)); intro gb352 hg w100 hbox hb; have n0_ := Aside0.mk (Kd.R_below (by (with_reducible repeat (first | apply Kd.R_alloc | apply Kd.R_drewN | apply Kd.R_drew)); exact HO_59.out) hb); have n1_ := Aside0.mk (Kd.V_below (Kd.V_elderB (by (with_reducible repeat (first | apply Kd.V_alloc | apply Kd.V_drewN | apply Kd.V_drew)); exact HO348.out) gb352 (Nat.le_of_eq hg.symm)) hb); have n2_ := Aside0.mk (below_step (by repeat (first | (with_reducible first | exact HB.out | apply below_alloc | apply pw_below_drewN | apply below_drew1) | exact HB.out)) hb); have n3_ := Aside0.mk (hbox); have n4_ := Aside0.mk ((by rw [hg]; exact (below_size (by repeat (first | (with_reducible first | exact HB.out | apply below_alloc | apply pw_below_drewN | apply below_drew1) | exact HB.out))) : w.heap.size ≤ gb352)); have n5_ := Aside0.mk ((by rw [hg]; exact (below_size (by repeat (first | (with_reducible first | exact HB.out | apply below_alloc | apply pw_below_drewN | apply below_drew1) | exact HB.out))) : w.heap.size ≤ gb352)); clear HO_59; clear HO348; clear HB; have HO_59 := n0_; have HO348 := n1_; have HB := n2_; have BK352 := n3_; have GW352 := n4_; have GE352 := n5_; clear n0_ n1_ n2_ n3_ n4_ n5_; clear hb hbox hg; have hcz101_0 : w100.cell? ⟨gb352, 0, none⟩ = some (.string (⟨#[]⟩ : ByteArray)) := (blk_cell BK352.out 0).trans rfl; have hcz101_1 : w100.cell? ⟨gb352, 1, none⟩ = some (.int .i64 0) := (blk_cell BK352.out 1).trans rfl; have hfz101_0 := blk_frozen BK352.out 0; have hfz101_1 := blk_frozen BK352.out 1) | ((with_reducible refine gate_callee (f := 22) rfl ?_); refine goesL_ (some 122) rfl rfl Try.func22 (by kernel_rfl) rfl #[.agg #[.string (rdOf ByteArray.empty y342 x61_1), .int .i64 0]] rfl (by (try simp only [List.map_toArray, List.map_cons, List.map_nil]); first | done | rfl | (simp only [List.length_drop, List.length_take]; rfl)) ?_; (with_reducible refine (codec_TakeText.calls k1 (rdOf ByteArray.empty y342 x61_1) 0 t368 t369 t370 t371 _ A84.out).mono ?_); rintro e w102 ⟨rfl, hb⟩; refine ⟨_, rfl, ?_⟩; have n0_ := Aside0.mk (Kd.R_below (by (with_reducible repeat (first | apply Kd.R_alloc | apply Kd.R_drewN | apply Kd.R_drew)); exact (Kd.R_mono (Kd.R_far (p := ⟨gb352, 1, none⟩) (Kd.R_far (p := ⟨gb352, 0, none⟩) (Kd.R_types HO_59.out BK352.out (by decide)) (fun _ hk => hk.2) (.string t349)) (fun _ hk => hk.2) (.int .i64 t350)) (fun _ h_ => h_.1))) hb); have n1_ := Aside0.mk (Kd.V_below (by (with_reducible repeat (first | apply Kd.V_alloc | apply Kd.V_drewN | apply Kd.V_drew)); exact (Kd.V_mono (Kd.V_far (p := ⟨gb352, 1, none⟩) (Kd.V_far (p := ⟨gb352, 0, none⟩) (Kd.V_mono HO348.out (fun k_ hk => (⟨hk, hk.2⟩ : _ ∧ k_ ≠ gb352))) (fun _ hk => hk.2) (.string t349)) (fun _ hk => hk.2) (.int .i64 t350)) (fun _ h_ => h_.1))) hb); have n2_ := Aside0.mk (blk_below (g := gb352) (o := .cells #[.string t349, .int .i64 t350] 24 (0, 0)) (by (with_reducible repeat (first | refine blk_drewN ?_ _ | refine blk_drew ?_ | refine blk_alloc ?_ _)); refine blk_put (cs := #[.string t349, .int .i64 0]) ?_ 1 _ rfl; (with_reducible repeat (first | refine blk_drewN ?_ _ | refine blk_drew ?_ | refine blk_alloc ?_ _)); refine blk_put (cs := #[.string (⟨#[]⟩ : ByteArray), .int .i64 0]) ?_ 0 _ rfl; (with_reducible repeat (first | refine blk_drewN ?_ _ | refine blk_drew ?_ | refine blk_alloc ?_ _)); exact BK352.out) hb); have n3_ := Aside0.mk (below_step (by repeat (first | (with_reducible first | exact HB.out | apply below_alloc | apply pw_below_drewN | apply below_drew1 | refine below_set ?_ GE352.out) | exact HB.out)) hb); clear HO_59; clear HO348; clear BK352; clear HB; have HO_59 := n0_; have HO348 := n1_; have BK352 := n2_; have HB := n3_; clear n0_ n1_ n2_ n3_; (try clear hb); (try clear hb2); (try clear hk); (try clear hi); have hcz103_0 : w102.cell? ⟨gb352, 0, none⟩ = some (.string t349) := (blk_cell BK352.out 0).trans rfl; have hcz103_1 : w102.cell? ⟨gb352, 1, none⟩ = some (.int .i64 t350) := (blk_cell BK352.out 1).trans rfl; have hfz103_0 := blk_frozen BK352.out 0; have hfz103_1 := blk_frozen BK352.out 1))
                                  go_roundg k1
                                  case measure => have := HK1.out; omega
                                  case rel => exact ⟨(wrap64 (x61_1 + 1)), (by first | rfl | (simp; done) | (simp [*]; done)), H', ⟨by have := HK1.out; omega⟩, ⟨by (with_reducible repeat (first | apply Kd.R_alloc | apply Kd.R_drewN | apply Kd.R_drew)); exact Kd.R_mono (Kd.R_far (p := ⟨gb352, 1, none⟩) (Kd.R_far (p := ⟨gb352, 0, none⟩) (Kd.R_types HO_59.out BK352.out (by decide)) (fun _ hk => hk.2) (.string t369)) (fun _ hk => hk.2) (.int .i64 t370)) (fun _ hk => trivial)⟩, ⟨by repeat (first | (with_reducible first | exact HB.out | apply below_alloc | apply pw_below_drewN | apply below_drew1 | refine below_set ?_ GE352.out) | exact HB.out)⟩⟩
                            · rw [if_neg c32] at H
                              exact absurd H (by simp)
                          · rw [if_neg c31] at H
                            exact absurd H (by simp)
                        · rw [if_neg c30] at H
                          have c30b0 : decide (x61_1 < (y342.length : Int)) = false := decide_eq_false c30
                          clear c30
                          obtain rfl := Option.some.inj H
                          go_wp2
                          go_ret
                          exact ⟨by first | rfl | (simp [errW_none, errW_some] <;> rfl) | (simp only [← hji10, ← hji15]; first | rfl | (simp [errW_none, errW_some] <;> rfl)) | (simp [*, errW_none, errW_some] <;> rfl), by repeat (first | (with_reducible first | exact HB.out | apply below_alloc | apply pw_below_drewN | apply below_drew1) | exact HB.out)⟩
                  · rw [if_neg c21] at H
                    exact absurd H (by simp)
                · rw [if_neg c18] at H
                  exact absurd H (by simp)
              · rw [if_neg c17] at H
                exact absurd H (by simp)
            · rw [if_neg c16] at H
              exact absurd H (by simp)
          · rw [if_neg c14] at H
            exact absurd H (by simp)
        · rw [if_neg c13] at H
          exact absurd H (by simp)
      · rw [if_neg c12] at H
        exact absurd H (by simp)
    · rw [if_neg c11] at H
      exact absurd H (by simp)
  · rw [if_neg c8] at H
    exact absurd H (by simp)

/-! ### columbariumlaw10_CodecOrders: function 7 -/
def columbariumlaw10_CodecOrders.l0 : Nat → Bool → Int → Int → ByteArray → Int → ByteArray → Int → List ByteArray → ByteArray → Int → Int → Int → Option (Bool)
  | 0, _, _, _, _, _, _, _, _, _, _, _, _ => none
  | k + 1, x7, x8, x9, x10, x11, x12, x13, x14, x15, x16, x17, x18 => if x18 < (x14.length : Int) then (if 0 ≤ x18 then (columbariumlaw10_CodecOrders.l0 k x7 x8 x9 x10 x11 x12 x13 x14 x15 x16 (wrap64 ((wrap64 (x17 + 4)) + ((rdOf ByteArray.empty x14 x18).size : Int))) (wrap64 (x18 + 1))) else (none)) else (if x7 = true then (if x11 = 0 then (if x13 = 0 then (if x16 = 0 then (if ((Op.bytesLess x10.toList x12.toList) == (decide (x8 < x9))) = true then (if ((x10.toList == x12.toList) == (x8 == x9)) = true then (some ((x15.size : Int) == x17)) else (none)) else (none)) else (none)) else (none)) else (none)) else (none))
def columbariumlaw10_CodecOrders.f (k : Nat) (a0 : Int) (a1 : Int) (l2 : List ByteArray) : Option (Bool) := (columbariumlaw10_awake.f k).bind fun t374 => ((columbariumlaw10_pick.f a0 2147483648).bind fun t375 => ((columbariumlaw10_pick.f a1 2147483648).bind fun t376 => ((codec_Number.f t375).bind fun bt377 => ((codec_Number.f t376).bind fun bt379 => ((columbariumlaw10_Few.f k l2).bind fun t381 => ((codec_List.f t381).bind fun bt384 => (columbariumlaw10_CodecOrders.l0 k t374 t375 t376 bt377.1 bt377.2 bt379.1 bt379.2 t381 bt384.1 bt384.2 4 0)))))))
theorem columbariumlaw10_CodecOrders.mono_l : ∀ k, (∀ y0 y1 y2 y3 y4 y5 y6 y7 y8 y9 y10 y11, LeO (columbariumlaw10_CodecOrders.l0 k y0 y1 y2 y3 y4 y5 y6 y7 y8 y9 y10 y11) (columbariumlaw10_CodecOrders.l0 (k + 1) y0 y1 y2 y3 y4 y5 y6 y7 y8 y9 y10 y11))
  | 0 => fun _ _ _ _ _ _ _ _ _ _ _ _ r h => by simp [columbariumlaw10_CodecOrders.l0] at h
  | k + 1 => by
    have ih0 := columbariumlaw10_CodecOrders.mono_l k
    · intro y0 y1 y2 y3 y4 y5 y6 y7 y8 y9 y10 y11
      unfold columbariumlaw10_CodecOrders.l0
      repeat' first
      | (with_reducible exact ih0 _ _ _ _ _ _ _ _ _ _ _ _)
      | (with_reducible exact columbariumlaw10_Few.mono _ _)
      | (with_reducible exact columbariumlaw10_awake.mono _)
      | (with_reducible exact LeO.refl _)
      | (with_reducible exact LeO.none _)
      | (with_reducible refine LeO.ite ?_ ?_)
      | (with_reducible refine LeO.bind ?_ (fun _ => ?_))
      | exact ih0 _ _ _ _ _ _ _ _ _ _ _ _
      | exact columbariumlaw10_Few.mono _ _
      | exact columbariumlaw10_awake.mono _
      | exact LeO.none _
      | refine LeO.ite ?_ ?_
      | refine LeO.bind ?_ (fun _ => ?_)
theorem columbariumlaw10_CodecOrders.mono : ∀ a0 a1 a2 k, LeO (columbariumlaw10_CodecOrders.f k a0 a1 a2) (columbariumlaw10_CodecOrders.f (k + 1) a0 a1 a2) := by
  intro a0 a1 a2 k
  have ih0 := columbariumlaw10_CodecOrders.mono_l k
  unfold columbariumlaw10_CodecOrders.f
  repeat' first
      | (with_reducible exact ih0 _ _ _ _ _ _ _ _ _ _ _ _)
      | (with_reducible exact columbariumlaw10_Few.mono _ _)
      | (with_reducible exact columbariumlaw10_awake.mono _)
      | (with_reducible exact LeO.refl _)
      | (with_reducible exact LeO.none _)
      | (with_reducible refine LeO.ite ?_ ?_)
      | (with_reducible refine LeO.bind ?_ (fun _ => ?_))
      | exact ih0 _ _ _ _ _ _ _ _ _ _ _ _
      | exact columbariumlaw10_Few.mono _ _
      | exact columbariumlaw10_awake.mono _
      | exact LeO.none _
      | refine LeO.ite ?_ ?_
      | refine LeO.bind ?_ (fun _ => ?_)
set_option maxHeartbeats 8000000 in
set_option maxRecDepth 100000 in
theorem columbariumlaw10_CodecOrders.calls (k : Nat) (a0 : Int) (a1 : Int) (A2 : Option Addr) (c2 : Nat) (l2 : List ByteArray) (r : Bool) (w : World) (hr2 : Kd.C Kd.string w A2 l2.length l2) (hc2 : l2.length ≤ c2) (h : columbariumlaw10_CodecOrders.f k a0 a1 l2 = some r) :
    Calls Try.prog 7 #[.int .i64 a0, .int .i64 a1, .slice A2 l2.length c2] w fun e w' => e = .returned (.bool r) ∧ Below w.heap.size w w' := by
  have HR2 := Aside0.mk hr2
  have HC2 := Aside0.mk hc2
  clear hr2 hc2
  have HB := Aside0.mk (Below.refl w.heap.size w)
  have H : ((columbariumlaw10_awake.f k).bind fun t374 => ((columbariumlaw10_pick.f a0 2147483648).bind fun t375 => ((columbariumlaw10_pick.f a1 2147483648).bind fun t376 => ((codec_Number.f t375).bind fun bt377 => ((codec_Number.f t376).bind fun bt379 => ((columbariumlaw10_Few.f k l2).bind fun t381 => ((codec_List.f t381).bind fun bt384 => (columbariumlaw10_CodecOrders.l0 k t374 t375 t376 bt377.1 bt377.2 bt379.1 bt379.2 t381 bt384.1 bt384.2 4 0)))))))) = some r := h
  clear h
  replace H := Option.bind_eq_some_iff.mp H
  obtain ⟨t374, A40, H⟩ := H
  replace H : ((columbariumlaw10_pick.f a0 2147483648).bind fun t375 => ((columbariumlaw10_pick.f a1 2147483648).bind fun t376 => ((codec_Number.f t375).bind fun bt377 => ((codec_Number.f t376).bind fun bt379 => ((columbariumlaw10_Few.f k l2).bind fun t381 => ((codec_List.f t381).bind fun bt384 => (columbariumlaw10_CodecOrders.l0 k t374 t375 t376 bt377.1 bt377.2 bt379.1 bt379.2 t381 bt384.1 bt384.2 4 0))))))) = some r := H
  have A4 := Aside0.mk A40
  clear A40
  replace H := Option.bind_eq_some_iff.mp H
  obtain ⟨t375, A50, H⟩ := H
  replace H : ((columbariumlaw10_pick.f a1 2147483648).bind fun t376 => ((codec_Number.f t375).bind fun bt377 => ((codec_Number.f t376).bind fun bt379 => ((columbariumlaw10_Few.f k l2).bind fun t381 => ((codec_List.f t381).bind fun bt384 => (columbariumlaw10_CodecOrders.l0 k t374 t375 t376 bt377.1 bt377.2 bt379.1 bt379.2 t381 bt384.1 bt384.2 4 0)))))) = some r := H
  have A5 := Aside0.mk A50
  clear A50
  replace H := Option.bind_eq_some_iff.mp H
  obtain ⟨t376, A60, H⟩ := H
  replace H : ((codec_Number.f t375).bind fun bt377 => ((codec_Number.f t376).bind fun bt379 => ((columbariumlaw10_Few.f k l2).bind fun t381 => ((codec_List.f t381).bind fun bt384 => (columbariumlaw10_CodecOrders.l0 k t374 t375 t376 bt377.1 bt377.2 bt379.1 bt379.2 t381 bt384.1 bt384.2 4 0))))) = some r := H
  have A6 := Aside0.mk A60
  clear A60
  replace H := Option.bind_eq_some_iff.mp H
  obtain ⟨⟨t377, t378⟩, A70, H⟩ := H
  replace H : ((codec_Number.f t376).bind fun bt379 => ((columbariumlaw10_Few.f k l2).bind fun t381 => ((codec_List.f t381).bind fun bt384 => (columbariumlaw10_CodecOrders.l0 k t374 t375 t376 t377 t378 bt379.1 bt379.2 t381 bt384.1 bt384.2 4 0)))) = some r := H
  have A7 := Aside0.mk A70
  clear A70
  replace H := Option.bind_eq_some_iff.mp H
  obtain ⟨⟨t379, t380⟩, A80, H⟩ := H
  replace H : ((columbariumlaw10_Few.f k l2).bind fun t381 => ((codec_List.f t381).bind fun bt384 => (columbariumlaw10_CodecOrders.l0 k t374 t375 t376 t377 t378 t379 t380 t381 bt384.1 bt384.2 4 0))) = some r := H
  have A8 := Aside0.mk A80
  clear A80
  replace H := Option.bind_eq_some_iff.mp H
  obtain ⟨t381, A90, H⟩ := H
  replace H : ((codec_List.f t381).bind fun bt384 => (columbariumlaw10_CodecOrders.l0 k t374 t375 t376 t377 t378 t379 t380 t381 bt384.1 bt384.2 4 0)) = some r := H
  have A9 := Aside0.mk A90
  clear A90
  replace H := Option.bind_eq_some_iff.mp H
  obtain ⟨⟨t384, t385⟩, A100, H⟩ := H
  replace H : (columbariumlaw10_CodecOrders.l0 k t374 t375 t376 t377 t378 t379 t380 t381 t384 t385 4 0) = some r := H
  have A10 := Aside0.mk A100
  clear A100
  have H' := Aside0.mk H
  clear H
  go_enter Try.func7, Try.ntmps7
  go_wp2_with (first | ((with_reducible refine gate_callee (f := 9) rfl ?_); refine goesL_ (some 19) rfl rfl Try.func9 (by kernel_rfl) rfl #[] rfl (by (try simp only [List.map_toArray, List.map_cons, List.map_nil]); first | done | rfl | (simp only [List.length_drop, List.length_take]; rfl)) ?_; (with_reducible refine (columbariumlaw10_awake.calls k  t374 _ A4.out).mono ?_); rintro e w11 ⟨rfl, hb⟩; refine ⟨_, rfl, ?_⟩; have n0_ := Aside0.mk (below_step (by repeat (first | (with_reducible first | exact HB.out | apply below_alloc | apply pw_below_drewN | apply below_drew1) | exact HB.out)) hb); clear HB; have HB := n0_; clear n0_; (try clear hb); (try clear hb2); (try clear hk); (try clear hi)) | ((with_reducible refine gate_callee (f := 10) rfl ?_); refine goesL_ (some 21) rfl rfl Try.func10 (by kernel_rfl) rfl #[.int .i64 a0, .int .i64 2147483648] rfl (by (try simp only [List.map_toArray, List.map_cons, List.map_nil]); first | done | rfl | (simp only [List.length_drop, List.length_take]; rfl)) ?_; (with_reducible refine (columbariumlaw10_pick.calls a0 2147483648 t375 _ A5.out).mono ?_); rintro e w' ⟨rfl, ⟨nd, rfl⟩⟩; refine ⟨_, rfl, ?_⟩) | ((with_reducible refine gate_callee (f := 10) rfl ?_); refine goesL_ (some 23) rfl rfl Try.func10 (by kernel_rfl) rfl #[.int .i64 a1, .int .i64 2147483648] rfl (by (try simp only [List.map_toArray, List.map_cons, List.map_nil]); first | done | rfl | (simp only [List.length_drop, List.length_take]; rfl)) ?_; (with_reducible refine (columbariumlaw10_pick.calls a1 2147483648 t376 _ A6.out).mono ?_); rintro e w' ⟨rfl, ⟨nd, rfl⟩⟩; refine ⟨_, rfl, ?_⟩) | ((with_reducible refine gate_callee (f := 11) rfl ?_); refine goesL_ (some 26) rfl rfl Try.func11 (by kernel_rfl) rfl #[.int .i64 t375] rfl (by (try simp only [List.map_toArray, List.map_cons, List.map_nil]); first | done | rfl | (simp only [List.length_drop, List.length_take]; rfl)) ?_; (with_reducible refine (codec_Number.calls t375 t377 t378 _ A7.out).mono ?_); rintro e w12 ⟨rfl, hb⟩; refine ⟨_, rfl, ?_⟩; have n0_ := Aside0.mk (below_step (by repeat (first | (with_reducible first | exact HB.out | apply below_alloc | apply pw_below_drewN | apply below_drew1) | exact HB.out)) hb); clear HB; have HB := n0_; clear n0_; (try clear hb); (try clear hb2); (try clear hk); (try clear hi)) | ((with_reducible refine gate_callee (f := 11) rfl ?_); refine goesL_ (some 31) rfl rfl Try.func11 (by kernel_rfl) rfl #[.int .i64 t376] rfl (by (try simp only [List.map_toArray, List.map_cons, List.map_nil]); first | done | rfl | (simp only [List.length_drop, List.length_take]; rfl)) ?_; (with_reducible refine (codec_Number.calls t376 t379 t380 _ A8.out).mono ?_); rintro e w13 ⟨rfl, hb⟩; refine ⟨_, rfl, ?_⟩; have n0_ := Aside0.mk (below_step (by repeat (first | (with_reducible first | exact HB.out | apply below_alloc | apply pw_below_drewN | apply below_drew1) | exact HB.out)) hb); clear HB; have HB := n0_; clear n0_; (try clear hb); (try clear hb2); (try clear hk); (try clear hi)) | ((with_reducible refine gate_callee (f := 13) rfl ?_); refine goesL_ (some 35) rfl rfl Try.func13 (by kernel_rfl) rfl #[.slice A2 l2.length c2] rfl (by (try simp only [List.map_toArray, List.map_cons, List.map_nil]); first | done | rfl | (simp only [List.length_drop, List.length_take]; rfl)) ?_; (with_reducible refine (columbariumlaw10_Few.calls k _ _ l2 t381 _ ?side1 ?side2 A9.out).mono ?_); (case side1 => repeat (first | exact (Kd.C_below HR2.out HB.out) | (with_reducible refine Kd.C_alloc ?_ _) | (with_reducible refine Kd.C_drewN ?_ _) | (with_reducible refine Kd.C_drew ?_))); (case side2 => exact HC2.out); rintro e w14 ⟨v382, rfl, ho0, hb⟩; refine ⟨_, rfl, ?_⟩; have n0_ := Aside0.mk (Kd.R_lower ho0 (below_size (by repeat (first | (with_reducible first | exact HB.out | apply below_alloc | apply pw_below_drewN | apply below_drew1) | exact HB.out)))); have n1_ := Aside0.mk (below_step (by repeat (first | (with_reducible first | exact HB.out | apply below_alloc | apply pw_below_drewN | apply below_drew1) | exact HB.out)) hb); clear HB; have HO383 := n0_; have HB := n1_; clear n0_ n1_; (try clear hb); (try clear hb2); (try clear hk); (try clear hi); (try clear ho0); obtain ⟨Ao15, co15, eo15⟩ := Kd.R_slice HO383.out; subst eo15) | ((with_reducible refine gate_callee (f := 14) rfl ?_); refine goesL_ (some 38) rfl rfl Try.func14 (by kernel_rfl) rfl #[.slice Ao15 t381.length co15] rfl (by (try simp only [List.map_toArray, List.map_cons, List.map_nil]); first | done | rfl | (simp only [List.length_drop, List.length_take]; rfl)) ?_; (with_reducible refine (codec_List.calls _ _ t381 t384 t385 _ ?side1 ?side2 A10.out).mono ?_); (case side1 => repeat (first | exact (Kd.R_reads' HO383.out).2.2 | (with_reducible refine Kd.C_alloc ?_ _) | (with_reducible refine Kd.C_drewN ?_ _) | (with_reducible refine Kd.C_drew ?_))); (case side2 => exact (Kd.R_reads' HO383.out).2.1); rintro e w16 ⟨rfl, hb⟩; refine ⟨_, rfl, ?_⟩; have n0_ := Aside0.mk (Kd.R_below (by (with_reducible repeat (first | apply Kd.R_alloc | apply Kd.R_drewN | apply Kd.R_drew)); exact HO383.out) hb); have n1_ := Aside0.mk (below_step (by repeat (first | (with_reducible first | exact HB.out | apply below_alloc | apply pw_below_drewN | apply below_drew1) | exact HB.out)) hb); clear HO383; clear HB; have HO383 := n0_; have HB := n1_; clear n0_ n1_; (try clear hb); (try clear hb2); (try clear hk); (try clear hi)))
  go_loopg [17, 18] k (fun kq v17 v18 w' => ∃ (x17_1 : Int) (x18_1 : Int), v17 = .int .i64 x17_1 ∧ v18 = .int .i64 x18_1 ∧ Aside0 (columbariumlaw10_CodecOrders.l0 kq t374 t375 t376 t377 t378 t379 t380 t381 t384 t385 x17_1 x18_1 = some r) ∧ Aside0 (kq ≤ k) ∧ Aside0 (Kd.R Kd.string 9 w' w.heap.size (fun _ => True) (.slice Ao15 t381.length co15) t381) ∧ Aside0 (Below w.heap.size w w'))
  case atStart => exact ⟨(4), (0), (by first | rfl | (simp; done) | (simp [*]; done)), (by first | rfl | (simp; done) | (simp [*]; done)), H', ⟨Nat.le_refl _⟩, ⟨by (with_reducible repeat (first | apply Kd.R_alloc | apply Kd.R_drewN | apply Kd.R_drew)); exact HO383.out⟩, ⟨by repeat (first | (with_reducible first | exact HB.out | apply below_alloc | apply pw_below_drewN | apply below_drew1) | exact HB.out)⟩⟩
  case round =>
    clear H'
    try clear c1
    try clear c2
    try clear p2
    try clear c7
    try clear c9
    try clear c10
    try clear c11
    try clear c13
    try clear c14
    obtain ⟨x17_1, x18_1, rfl, rfl, HA, HK1, HO_14, HB⟩ := hrel
    cases gk with
    | zero => exact absurd HA.out (by simp [columbariumlaw10_CodecOrders.l0])
    | succ k1 =>
      have H := HA.out
      clear HA
      simp only [columbariumlaw10_CodecOrders.l0] at H
      by_cases c17 : x18_1 < (t381.length : Int)
      · rw [if_pos c17] at H
        have c17b0 : decide (x18_1 < (t381.length : Int)) = true := decide_eq_true c17
        clear c17
        by_cases c18 : 0 ≤ x18_1
        · rw [if_pos c18] at H
          have c18b0 : decide (0 ≤ x18_1) = true := decide_eq_true c18
          clear c18
          have H' := Aside0.mk H
          clear H
          have p386 : 0 ≤ (x18_1 : Int) := of_decide_eq_true (by first | (with_reducible assumption) | assumption)
          have q386 : x18_1 < (t381.length : Int) := of_decide_eq_true (by first | (with_reducible assumption) | assumption)
          obtain ⟨ad386, e386, hx386_0⟩ := Kd.at_string (Kd.R_reads' HO_14.out).2.2 x18_1 p386 q386
          cases e386
          replace p386 := eq_true p386
          replace q386 := eq_true q386
          go_wp2
          go_roundg k1
          case measure => have := HK1.out; omega
          case rel => exact ⟨(wrap64 ((wrap64 (x17_1 + 4)) + ((rdOf ByteArray.empty t381 x18_1).size : Int))), (wrap64 (x18_1 + 1)), (by first | rfl | (simp; done) | (simp [*]; done)), (by first | rfl | (simp; done) | (simp [*]; done)), H', ⟨by have := HK1.out; omega⟩, ⟨by (with_reducible repeat (first | apply Kd.R_alloc | apply Kd.R_drewN | apply Kd.R_drew)); exact HO_14.out⟩, ⟨by repeat (first | (with_reducible first | exact HB.out | apply below_alloc | apply pw_below_drewN | apply below_drew1) | exact HB.out)⟩⟩
        · rw [if_neg c18] at H
          exact absurd H (by simp)
      · rw [if_neg c17] at H
        have c17b0 : decide (x18_1 < (t381.length : Int)) = false := decide_eq_false c17
        clear c17
        by_cases c19 : t374 = true
        · subst c19
          have H1 : (if t378 = 0 then (if t380 = 0 then (if t385 = 0 then (if ((Op.bytesLess t377.toList t379.toList) == (decide (t375 < t376))) = true then (if ((t377.toList == t379.toList) == (t375 == t376)) = true then (some ((t384.size : Int) == x17_1)) else (none)) else (none)) else (none)) else (none)) else (none)) = some r := by rw [if_pos rfl] at H; exact H
          clear H
          have H := H1
          clear H1
          by_cases c20 : t378 = 0
          · rw [if_pos c20] at H
            have c20b0 : (t378 == 0) = true := beq_iff_eq.mpr c20
            have c20b1 : (t378 != 0) = false := bne_eq_false_iff_eq.mpr c20
            clear c20
            by_cases c21 : t380 = 0
            · rw [if_pos c21] at H
              have c21b0 : (t380 == 0) = true := beq_iff_eq.mpr c21
              have c21b1 : (t380 != 0) = false := bne_eq_false_iff_eq.mpr c21
              clear c21
              by_cases c22 : t385 = 0
              · rw [if_pos c22] at H
                have c22b0 : (t385 == 0) = true := beq_iff_eq.mpr c22
                have c22b1 : (t385 != 0) = false := bne_eq_false_iff_eq.mpr c22
                clear c22
                by_cases c23 : ((Op.bytesLess t377.toList t379.toList) == (decide (t375 < t376))) = true
                · rw [if_pos c23] at H
                  have c23b0 : ((Op.bytesLess t377.toList t379.toList) == (decide (t375 < t376))) = true := c23
                  (try (have c23b1 : decide ((Op.bytesLess t377.toList t379.toList) = (decide (t375 < t376))) = true := by simpa using c23))
                  (try (have c23b2 : ((Op.bytesLess t377.toList t379.toList) == (decide (t375 < t376))) = true := by simpa using c23))
                  clear c23
                  by_cases c24 : ((t377.toList == t379.toList) == (t375 == t376)) = true
                  · rw [if_pos c24] at H
                    have c24b0 : ((t377.toList == t379.toList) == (t375 == t376)) = true := c24
                    (try (have c24b1 : decide ((t377.toList == t379.toList) = (t375 == t376)) = true := by simpa using c24))
                    (try (have c24b2 : ((t377.toList == t379.toList) == (t375 == t376)) = true := by simpa using c24))
                    clear c24
                    obtain rfl := Option.some.inj H
                    go_wp2
                    go_ret
                    exact ⟨by first | rfl | (simp [errW_none, errW_some] <;> rfl) | (simp [*, errW_none, errW_some] <;> rfl), by repeat (first | (with_reducible first | exact HB.out | apply below_alloc | apply pw_below_drewN | apply below_drew1) | exact HB.out)⟩
                  · rw [if_neg c24] at H
                    exact absurd H (by simp)
                · rw [if_neg c23] at H
                  exact absurd H (by simp)
              · rw [if_neg c22] at H
                exact absurd H (by simp)
            · rw [if_neg c21] at H
              exact absurd H (by simp)
          · rw [if_neg c20] at H
            exact absurd H (by simp)
        · replace c19 := Bool.eq_false_iff.mpr c19
          subst c19
          have H1 : (none) = some r := by rw [if_neg (show ¬ (false = true) by decide)] at H; exact H
          clear H
          have H := H1
          clear H1
          exact absurd H (by simp)

end Go.Proofs.Ytmddhiokioojlaa.A
