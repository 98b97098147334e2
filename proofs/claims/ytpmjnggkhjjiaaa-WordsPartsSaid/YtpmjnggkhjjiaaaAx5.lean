-- Written by program (this session's myprint.py over the kit's print.py). Not trusted: Lean checks it.
import Derived.Test.YtpmjnggkhjjiaaaAx0
import Derived.Test.YtpmjnggkhjjiaaaAx1
import Derived.Test.YtpmjnggkhjjiaaaHandConv
import Derived.Test.YtpmjnggkhjjiaaaHandSet
import Derived.Test.YtpmjnggkhjjiaaaHandSplit
namespace Go.Proofs.Ytpmjnggkhjjiaaa.A
open Go.RowKit Go.Proofs.YtpmjnggkhjjiaaaW.PrintWords Go.Proofs.YtpmjnggkhjjiaaaW.PrintLast Go.Proofs.YtpmjnggkhjjiaaaW.PrintMore
attribute [local go_sem] str_gtr str_leq max2_int min2_int max_two min_two max_three min_three max_four min_four   -- for this text's walks alone
set_option linter.unusedVariables false
set_option linter.unusedSimpArgs false

/-! ### columbariumref10_Texts: function 15 -/
def columbariumref10_Texts.l0 : Nat → List ByteArray → List ByteArray → Int → Option (Bool)
  | 0, _, _, _ => none
  | k + 1, x0, x1, x5 => if x5 < (x0.length : Int) then (if 0 ≤ x5 then (if x5 < (x1.length : Int) then (if (rdOf ByteArray.empty x0 x5).toList = (rdOf ByteArray.empty x1 x5).toList then (columbariumref10_Texts.l0 k x0 x1 (wrap64 (x5 + 1))) else (some false)) else (none)) else (none)) else (some true)
def columbariumref10_Texts.f (k : Nat) (l0 : List ByteArray) (l1 : List ByteArray) : Option (Bool) := if (l0.length : Int) = (l1.length : Int) then (columbariumref10_Texts.l0 k l0 l1 0) else (some false)
theorem columbariumref10_Texts.mono_l : ∀ k, (∀ y0 y1 y2, LeO (columbariumref10_Texts.l0 k y0 y1 y2) (columbariumref10_Texts.l0 (k + 1) y0 y1 y2))
  | 0 => fun _ _ _ r h => by simp [columbariumref10_Texts.l0] at h
  | k + 1 => by
    have ih0 := columbariumref10_Texts.mono_l k
    · intro y0 y1 y2
      unfold columbariumref10_Texts.l0
      repeat' first
      | (with_reducible exact ih0 _ _ _)
      | (with_reducible exact LeO.refl _)
      | (with_reducible exact LeO.none _)
      | (with_reducible refine LeO.ite ?_ ?_)
      | (with_reducible refine LeO.bind ?_ (fun _ => ?_))
      | exact ih0 _ _ _
      | exact LeO.none _
      | refine LeO.ite ?_ ?_
      | refine LeO.bind ?_ (fun _ => ?_)
theorem columbariumref10_Texts.mono : ∀ a0 a1 k, LeO (columbariumref10_Texts.f k a0 a1) (columbariumref10_Texts.f (k + 1) a0 a1) := by
  intro a0 a1 k
  have ih0 := columbariumref10_Texts.mono_l k
  unfold columbariumref10_Texts.f
  repeat' first
      | (with_reducible exact ih0 _ _ _)
      | (with_reducible exact LeO.refl _)
      | (with_reducible exact LeO.none _)
      | (with_reducible refine LeO.ite ?_ ?_)
      | (with_reducible refine LeO.bind ?_ (fun _ => ?_))
      | exact ih0 _ _ _
      | exact LeO.none _
      | refine LeO.ite ?_ ?_
      | refine LeO.bind ?_ (fun _ => ?_)
set_option maxHeartbeats 8000000 in
set_option maxRecDepth 100000 in
theorem columbariumref10_Texts.calls (k : Nat) (A0 : Option Addr) (c0 : Nat) (l0 : List ByteArray) (A1 : Option Addr) (c1 : Nat) (l1 : List ByteArray) (r : Bool) (w : World) (hr0 : Kd.C Kd.string w A0 l0.length l0) (hc0 : l0.length ≤ c0) (hr1 : Kd.C Kd.string w A1 l1.length l1) (hc1 : l1.length ≤ c1) (h : columbariumref10_Texts.f k l0 l1 = some r) :
    Calls Try.prog 15 #[.slice A0 l0.length c0, .slice A1 l1.length c1] w fun e w' => e = .returned (.bool r) ∧ Drawn0 w w' := by
  have HR0 := Aside0.mk hr0
  have HC0 := Aside0.mk hc0
  clear hr0 hc0
  have HR1 := Aside0.mk hr1
  have HC1 := Aside0.mk hc1
  clear hr1 hc1
  have H : (if (l0.length : Int) = (l1.length : Int) then (columbariumref10_Texts.l0 k l0 l1 0) else (some false)) = some r := h
  clear h
  by_cases c3 : (l0.length : Int) = (l1.length : Int)
  · rw [if_pos c3] at H
    have c3b0 : ((l0.length : Int) == (l1.length : Int)) = true := beq_iff_eq.mpr c3
    have c3b1 : ((l0.length : Int) != (l1.length : Int)) = false := bne_eq_false_iff_eq.mpr c3
    have c3b2 : (l0.length == l1.length) = true := by first | simpa using c3 | (simp at c3 ⊢; omega)
    clear c3
    have H' := Aside0.mk H
    clear H
    go_enter Try.func15, Try.ntmps15
    go_wp2
    repeat (go_quiet (fail); try go_wp2)
    go_loopg [5] k (fun kq v5 w' => ∃ (x5_1 : Int), v5 = .int .i64 x5_1 ∧ Aside0 (columbariumref10_Texts.l0 kq l0 l1 x5_1 = some r) ∧ Aside0 (kq ≤ k) ∧ Drawn0 w w')
    case atStart => exact ⟨(0), (by first | rfl | (simp; done) | (simp [*]; done)), H', ⟨Nat.le_refl _⟩, by repeat (first | exact Drawn0.refl _ | apply Drawn0.step)⟩
    case round =>
      clear H'
      try clear c1
      try clear p2
      try clear c3
      try clear c3b0
      try clear c3b1
      try clear c3b2
      obtain ⟨x5_1, rfl, HA, HK1, ⟨m1, rfl⟩⟩ := hrel
      cases gk with
      | zero => exact absurd HA.out (by simp [columbariumref10_Texts.l0])
      | succ k1 =>
        have H := HA.out
        clear HA
        simp only [columbariumref10_Texts.l0] at H
        by_cases c4 : x5_1 < (l0.length : Int)
        · rw [if_pos c4] at H
          have c4b0 : decide (x5_1 < (l0.length : Int)) = true := decide_eq_true c4
          clear c4
          by_cases c5 : 0 ≤ x5_1
          · rw [if_pos c5] at H
            have c5b0 : decide (0 ≤ x5_1) = true := decide_eq_true c5
            clear c5
            by_cases c6 : x5_1 < (l1.length : Int)
            · rw [if_pos c6] at H
              have c6b0 : decide (x5_1 < (l1.length : Int)) = true := decide_eq_true c6
              clear c6
              by_cases c7 : (rdOf ByteArray.empty l0 x5_1).toList = (rdOf ByteArray.empty l1 x5_1).toList
              · rw [if_pos c7] at H
                have c7b0 : ((rdOf ByteArray.empty l0 x5_1).toList == (rdOf ByteArray.empty l1 x5_1).toList) = true := beq_iff_eq.mpr c7
                have c7b1 : ((rdOf ByteArray.empty l0 x5_1).toList != (rdOf ByteArray.empty l1 x5_1).toList) = false := bne_eq_false_iff_eq.mpr c7
                clear c7
                have H' := Aside0.mk H
                clear H
                have p101 : 0 ≤ (x5_1 : Int) := of_decide_eq_true (by first | (with_reducible assumption) | assumption)
                have q101 : x5_1 < (l0.length : Int) := of_decide_eq_true (by first | (with_reducible assumption) | assumption)
                obtain ⟨ad101, e101, hx101_0⟩ := Kd.at_string HR0.out x5_1 p101 q101
                cases e101
                replace p101 := eq_true p101
                replace q101 := eq_true q101
                have p102 : 0 ≤ (x5_1 : Int) := of_decide_eq_true (by first | (with_reducible assumption) | assumption)
                have q102 : x5_1 < (l1.length : Int) := of_decide_eq_true (by first | (with_reducible assumption) | assumption)
                obtain ⟨ad102, e102, hx102_0⟩ := Kd.at_string HR1.out x5_1 p102 q102
                cases e102
                replace p102 := eq_true p102
                replace q102 := eq_true q102
                go_wp2
                repeat (go_quiet (fail); try go_wp2)
                go_roundg k1
                case measure => have := HK1.out; omega
                case rel => exact ⟨(wrap64 (x5_1 + 1)), (by first | rfl | (simp; done) | (simp [*]; done)), H', ⟨by have := HK1.out; omega⟩, by repeat (first | exact Drawn0.refl _ | apply Drawn0.step)⟩
              · rw [if_neg c7] at H
                have c7b0 : ((rdOf ByteArray.empty l0 x5_1).toList == (rdOf ByteArray.empty l1 x5_1).toList) = false := beq_eq_false_iff_ne.mpr c7
                have c7b1 : ((rdOf ByteArray.empty l0 x5_1).toList != (rdOf ByteArray.empty l1 x5_1).toList) = true := bne_iff_ne.mpr c7
                obtain rfl := Option.some.inj H
                have p101 : 0 ≤ (x5_1 : Int) := of_decide_eq_true (by first | (with_reducible assumption) | assumption)
                have q101 : x5_1 < (l0.length : Int) := of_decide_eq_true (by first | (with_reducible assumption) | assumption)
                obtain ⟨ad101, e101, hx101_0⟩ := Kd.at_string HR0.out x5_1 p101 q101
                cases e101
                replace p101 := eq_true p101
                replace q101 := eq_true q101
                have p102 : 0 ≤ (x5_1 : Int) := of_decide_eq_true (by first | (with_reducible assumption) | assumption)
                have q102 : x5_1 < (l1.length : Int) := of_decide_eq_true (by first | (with_reducible assumption) | assumption)
                obtain ⟨ad102, e102, hx102_0⟩ := Kd.at_string HR1.out x5_1 p102 q102
                cases e102
                replace p102 := eq_true p102
                replace q102 := eq_true q102
                go_wp2
                repeat (go_quiet (fail); try go_wp2)
                all_goals first | (go_ret; exact ⟨by first | rfl | (simp; done) | (simp [*]; done) | (refine congrArg (fun b_ => Ending.returned (Value.bool b_)) (decide_eq_decide.mpr ?_); simp only [mx, mn]; (repeat' split) <;> omega), by repeat (first | exact Drawn0.refl _ | apply Drawn0.step)⟩) | (exfalso; rename_i h_; first | (have h2_ := Int.not_le.mpr h_; simp_all; done) | (simp_all; done) | (simp_all; omega))
            · rw [if_neg c6] at H
              exact absurd H (by simp)
          · rw [if_neg c5] at H
            exact absurd H (by simp)
        · rw [if_neg c4] at H
          have c4b0 : decide (x5_1 < (l0.length : Int)) = false := decide_eq_false c4
          clear c4
          obtain rfl := Option.some.inj H
          go_wp2
          repeat (go_quiet (fail); try go_wp2)
          all_goals first | (go_ret; exact ⟨by first | rfl | (simp; done) | (simp [*]; done) | (refine congrArg (fun b_ => Ending.returned (Value.bool b_)) (decide_eq_decide.mpr ?_); simp only [mx, mn]; (repeat' split) <;> omega), by repeat (first | exact Drawn0.refl _ | apply Drawn0.step)⟩) | (exfalso; rename_i h_; first | (have h2_ := Int.not_le.mpr h_; simp_all; done) | (simp_all; done) | (simp_all; omega))
  · rw [if_neg c3] at H
    have c3b0 : ((l0.length : Int) == (l1.length : Int)) = false := beq_eq_false_iff_ne.mpr c3
    have c3b1 : ((l0.length : Int) != (l1.length : Int)) = true := bne_iff_ne.mpr c3
    have c3b2 : (l0.length == l1.length) = false := by first | simpa using c3 | (simp at c3 ⊢; omega)
    obtain rfl := Option.some.inj H
    go_enter Try.func15, Try.ntmps15
    go_wp2
    repeat (go_quiet (fail); try go_wp2)
    all_goals first | (go_ret; exact ⟨by first | rfl | (simp; done) | (simp [*]; done) | (refine congrArg (fun b_ => Ending.returned (Value.bool b_)) (decide_eq_decide.mpr ?_); simp only [mx, mn]; (repeat' split) <;> omega), by repeat (first | exact Drawn0.refl _ | apply Drawn0.step)⟩) | (exfalso; rename_i h_; first | (have h2_ := Int.not_le.mpr h_; simp_all; done) | (simp_all; done) | (simp_all; omega))

/-! ### words_May: function 16 -/
def words_May.l0 : Nat → ByteArray → List Int → Int → Int → Option (Bool)
  | 0, _, _, _, _ => none
  | k + 1, x0, x6, x7, x8 => if x8 < x7 then (if 0 ≤ x8 then (if x8 < (x6.length : Int) then (if (rd x6 x8) = 0 then (some false) else ((words_Sign.f k (rd x6 x8)).bind fun t107 => (if t107 = (rd x6 x8) then (words_May.l0 k x0 x6 x7 (wrap64 (x8 + 1))) else (some false)))) else (none)) else (none)) else (if (x0.size : Int) ≥ 2 then (some (decide ((x0.size : Int) ≤ 20))) else (some false))
def words_May.f (k : Nat) (a0 : ByteArray) : Option (Bool) := (conv_bytes.f a0).bind fun t103 => (words_May.l0 k a0 t103 (t103.length : Int) 0)
theorem words_May.mono_l : ∀ k, (∀ y0 y1 y2 y3, LeO (words_May.l0 k y0 y1 y2 y3) (words_May.l0 (k + 1) y0 y1 y2 y3))
  | 0 => fun _ _ _ _ r h => by simp [words_May.l0] at h
  | k + 1 => by
    have ih0 := words_May.mono_l k
    · intro y0 y1 y2 y3
      unfold words_May.l0
      repeat' first
      | (with_reducible exact ih0 _ _ _ _)
      | (with_reducible exact words_Sign.mono _ _)
      | (with_reducible exact LeO.refl _)
      | (with_reducible exact LeO.none _)
      | (with_reducible refine LeO.ite ?_ ?_)
      | (with_reducible refine LeO.bind ?_ (fun _ => ?_))
      | exact ih0 _ _ _ _
      | exact words_Sign.mono _ _
      | exact LeO.none _
      | refine LeO.ite ?_ ?_
      | refine LeO.bind ?_ (fun _ => ?_)
theorem words_May.mono : ∀ a0 k, LeO (words_May.f k a0) (words_May.f (k + 1) a0) := by
  intro a0 k
  have ih0 := words_May.mono_l k
  unfold words_May.f
  repeat' first
      | (with_reducible exact ih0 _ _ _ _)
      | (with_reducible exact words_Sign.mono _ _)
      | (with_reducible exact LeO.refl _)
      | (with_reducible exact LeO.none _)
      | (with_reducible refine LeO.ite ?_ ?_)
      | (with_reducible refine LeO.bind ?_ (fun _ => ?_))
      | exact ih0 _ _ _ _
      | exact words_Sign.mono _ _
      | exact LeO.none _
      | refine LeO.ite ?_ ?_
      | refine LeO.bind ?_ (fun _ => ?_)
set_option maxHeartbeats 8000000 in
set_option maxRecDepth 100000 in
theorem words_May.calls (k : Nat) (a0 : ByteArray) (r : Bool) (w : World) (h : words_May.f k a0 = some r) :
    Calls Try.prog 16 #[.string a0] w fun e w' => e = .returned (.bool r) ∧ Below w.heap.size w w' := by
  have HB := Aside0.mk (Below.refl w.heap.size w)
  have H : ((conv_bytes.f a0).bind fun t103 => (words_May.l0 k a0 t103 (t103.length : Int) 0)) = some r := h
  clear h
  replace H := Option.bind_eq_some_iff.mp H
  obtain ⟨t103, A20, H⟩ := H
  replace H : (words_May.l0 k a0 t103 (t103.length : Int) 0) = some r := H
  have A2 := Aside0.mk A20
  clear A20
  have H' := Aside0.mk H
  clear H
  go_enter Try.func16, Try.ntmps16
  go_wp2_with (first | ((with_reducible refine gate_conv 9 33 rfl ?_); refine conv_event rfl rfl rfl ?_; (with_reducible refine (conv_bytes.calls a0 t103 _ A2.out).mono ?_); rintro e w3 ⟨v104, rfl, ho0, hb⟩; refine ⟨_, rfl, ?_⟩; have n0_ := Aside0.mk (Kd.V_lower (Kd.V_mono (ok' := fun k_ => True) ho0 (fun k_ hk_ => trivial)) (below_size (by repeat (first | (with_reducible first | exact HB.out | apply below_alloc | apply pw_below_drewN | apply below_drew1) | exact HB.out)))); have n1_ := Aside0.mk (below_step (by repeat (first | (with_reducible first | exact HB.out | apply below_alloc | apply pw_below_drewN | apply below_drew1) | exact HB.out)) hb); clear HB; have HO105 := n0_; have HB := n1_; clear n0_ n1_; (try clear hb); (try clear hb2); (try clear hk); (try clear hi); (try clear ho0); obtain ⟨Ao4, co4, eo4⟩ := Kd.V_slice HO105.out; subst eo4))
  go_loopg [8] k (fun kq v8 w' => ∃ (x8_1 : Int), v8 = .int .i64 x8_1 ∧ Aside0 (words_May.l0 kq a0 t103 (t103.length : Int) x8_1 = some r) ∧ Aside0 (kq ≤ k) ∧ Aside0 (Kd.V (Kd.int .u8) 5 w' w.heap.size (fun _ => True) (.slice Ao4 t103.length co4) t103) ∧ Aside0 (Below w.heap.size w w'))
  case atStart => exact ⟨(0), (by first | rfl | (simp; done) | (simp [*]; done)), H', ⟨Nat.le_refl _⟩, ⟨by (with_reducible repeat (first | apply Kd.V_alloc | apply Kd.V_drewN | apply Kd.V_drew)); exact HO105.out⟩, ⟨by repeat (first | (with_reducible first | exact HB.out | apply below_alloc | apply pw_below_drewN | apply below_drew1) | exact HB.out)⟩⟩
  case round =>
    clear H'
    try clear c1
    try clear p2
    obtain ⟨x8_1, rfl, HA, HK1, HO_6, HB⟩ := hrel
    cases gk with
    | zero => exact absurd HA.out (by simp [words_May.l0])
    | succ k1 =>
      have H := HA.out
      clear HA
      simp only [words_May.l0] at H
      by_cases c5 : x8_1 < (t103.length : Int)
      · rw [if_pos c5] at H
        have c5b0 : decide (x8_1 < (t103.length : Int)) = true := decide_eq_true c5
        clear c5
        by_cases c6 : 0 ≤ x8_1
        · rw [if_pos c6] at H
          have c6b0 : decide (0 ≤ x8_1) = true := decide_eq_true c6
          clear c6
          by_cases c7 : x8_1 < (t103.length : Int)
          · rw [if_pos c7] at H
            have c7b0 : decide (x8_1 < (t103.length : Int)) = true := decide_eq_true c7
            clear c7
            by_cases c8 : (rd t103 x8_1) = 0
            · rw [if_pos c8] at H
              have c8b0 : ((rd t103 x8_1) == 0) = true := beq_iff_eq.mpr c8
              have c8b1 : ((rd t103 x8_1) != 0) = false := bne_eq_false_iff_eq.mpr c8
              clear c8
              obtain rfl := Option.some.inj H
              have p106 : 0 ≤ (x8_1 : Int) := of_decide_eq_true (by first | (with_reducible assumption) | assumption)
              have q106 : x8_1 < (t103.length : Int) := of_decide_eq_true (by first | (with_reducible assumption) | assumption)
              obtain ⟨ad106, e106, hx106_0⟩ := Kd.at_int (Kd.V_reads' HO_6.out).2.2 x8_1 p106 q106
              cases e106
              replace p106 := eq_true p106
              replace q106 := eq_true q106
              go_wp2
              all_goals first | (go_ret; exact ⟨by first | rfl | (simp [errW_none, errW_some] <;> rfl) | (simp [*, errW_none, errW_some] <;> rfl) | (refine congrArg (fun b_ => Ending.returned (Value.bool b_)) (decide_eq_decide.mpr ?_); simp only [mx, mn]; (repeat' split) <;> omega), by repeat (first | (with_reducible first | exact HB.out | apply below_alloc | apply pw_below_drewN | apply below_drew1) | exact HB.out)⟩) | (exfalso; rename_i h_; first | (have h2_ := Int.not_le.mpr h_; simp_all; done) | (simp_all; done) | (simp_all; omega))
            · rw [if_neg c8] at H
              have c8b0 : ((rd t103 x8_1) == 0) = false := beq_eq_false_iff_ne.mpr c8
              have c8b1 : ((rd t103 x8_1) != 0) = true := bne_iff_ne.mpr c8
              replace H := Option.bind_eq_some_iff.mp H
              obtain ⟨t107, A90, H⟩ := H
              replace H : (if t107 = (rd t103 x8_1) then (words_May.l0 k1 a0 t103 (t103.length : Int) (wrap64 (x8_1 + 1))) else (some false)) = some r := H
              have A9 := Aside0.mk A90
              clear A90
              by_cases c10 : t107 = (rd t103 x8_1)
              · rw [if_pos c10] at H
                have c10b0 : (t107 == (rd t103 x8_1)) = true := beq_iff_eq.mpr c10
                have c10b1 : (t107 != (rd t103 x8_1)) = false := bne_eq_false_iff_eq.mpr c10
                clear c10
                have H' := Aside0.mk H
                clear H
                have p106 : 0 ≤ (x8_1 : Int) := of_decide_eq_true (by first | (with_reducible assumption) | assumption)
                have q106 : x8_1 < (t103.length : Int) := of_decide_eq_true (by first | (with_reducible assumption) | assumption)
                obtain ⟨ad106, e106, hx106_0⟩ := Kd.at_int (Kd.V_reads' HO_6.out).2.2 x8_1 p106 q106
                cases e106
                replace p106 := eq_true p106
                replace q106 := eq_true q106
                go_wp2_with (first | (go_at_call 19; (with_reducible refine (words_Sign.calls k1 (rd t103 x8_1) t107 _ A9.out).mono ?_); rintro e w' ⟨rfl, ⟨nd, rfl⟩⟩))
                go_roundg k1
                case measure => have := HK1.out; omega
                case rel => exact ⟨(wrap64 (x8_1 + 1)), (by first | rfl | (simp; done) | (simp [*]; done)), H', ⟨by have := HK1.out; omega⟩, ⟨by (with_reducible repeat (first | apply Kd.V_alloc | apply Kd.V_drewN | apply Kd.V_drew)); exact HO_6.out⟩, ⟨by repeat (first | (with_reducible first | exact HB.out | apply below_alloc | apply pw_below_drewN | apply below_drew1) | exact HB.out)⟩⟩
              · rw [if_neg c10] at H
                have c10b0 : (t107 == (rd t103 x8_1)) = false := beq_eq_false_iff_ne.mpr c10
                have c10b1 : (t107 != (rd t103 x8_1)) = true := bne_iff_ne.mpr c10
                obtain rfl := Option.some.inj H
                have p106 : 0 ≤ (x8_1 : Int) := of_decide_eq_true (by first | (with_reducible assumption) | assumption)
                have q106 : x8_1 < (t103.length : Int) := of_decide_eq_true (by first | (with_reducible assumption) | assumption)
                obtain ⟨ad106, e106, hx106_0⟩ := Kd.at_int (Kd.V_reads' HO_6.out).2.2 x8_1 p106 q106
                cases e106
                replace p106 := eq_true p106
                replace q106 := eq_true q106
                go_wp2_with (first | (go_at_call 19; (with_reducible refine (words_Sign.calls k1 (rd t103 x8_1) t107 _ A9.out).mono ?_); rintro e w' ⟨rfl, ⟨nd, rfl⟩⟩))
                all_goals first | (go_ret; exact ⟨by first | rfl | (simp [errW_none, errW_some] <;> rfl) | (simp [*, errW_none, errW_some] <;> rfl) | (refine congrArg (fun b_ => Ending.returned (Value.bool b_)) (decide_eq_decide.mpr ?_); simp only [mx, mn]; (repeat' split) <;> omega), by repeat (first | (with_reducible first | exact HB.out | apply below_alloc | apply pw_below_drewN | apply below_drew1) | exact HB.out)⟩) | (exfalso; rename_i h_; first | (have h2_ := Int.not_le.mpr h_; simp_all; done) | (simp_all; done) | (simp_all; omega))
          · rw [if_neg c7] at H
            exact absurd H (by simp)
        · rw [if_neg c6] at H
          exact absurd H (by simp)
      · rw [if_neg c5] at H
        have c5b0 : decide (x8_1 < (t103.length : Int)) = false := decide_eq_false c5
        clear c5
        by_cases c11 : (a0.size : Int) ≥ 2
        · rw [if_pos c11] at H
          have c11b0 : decide (2 ≤ (a0.size : Int)) = true := decide_eq_true c11
          have c11b1 : decide (2 ≤ a0.size) = true := decide_eq_true (by omega)
          clear c11
          obtain rfl := Option.some.inj H
          go_wp2
          all_goals first | (go_ret; exact ⟨by first | rfl | (simp [errW_none, errW_some] <;> rfl) | (simp [*, errW_none, errW_some] <;> rfl) | (refine congrArg (fun b_ => Ending.returned (Value.bool b_)) (decide_eq_decide.mpr ?_); simp only [mx, mn]; (repeat' split) <;> omega), by repeat (first | (with_reducible first | exact HB.out | apply below_alloc | apply pw_below_drewN | apply below_drew1) | exact HB.out)⟩) | (exfalso; rename_i h_; first | (have h2_ := Int.not_le.mpr h_; simp_all; done) | (simp_all; done) | (simp_all; omega))
        · rw [if_neg c11] at H
          have c11b0 : decide (2 ≤ (a0.size : Int)) = false := decide_eq_false c11
          have c11b1 : decide (2 ≤ a0.size) = false := decide_eq_false (by omega)
          clear c11
          obtain rfl := Option.some.inj H
          go_wp2
          all_goals first | (go_ret; exact ⟨by first | rfl | (simp [errW_none, errW_some] <;> rfl) | (simp [*, errW_none, errW_some] <;> rfl) | (refine congrArg (fun b_ => Ending.returned (Value.bool b_)) (decide_eq_decide.mpr ?_); simp only [mx, mn]; (repeat' split) <;> omega), by repeat (first | (with_reducible first | exact HB.out | apply below_alloc | apply pw_below_drewN | apply below_drew1) | exact HB.out)⟩) | (exfalso; rename_i h_; first | (have h2_ := Int.not_le.mpr h_; simp_all; done) | (simp_all; done) | (simp_all; omega))

/-! ### columbariumlaw16_awake: function 8 -/
def columbariumlaw16_awake.f (k : Nat)  : Option (Bool) := (words_Split.f (⟨#[84, 104, 101, 32, 97, 45, 99, 97, 116, 44, 32, 116, 104, 101]⟩ : ByteArray)).bind fun bt108 => ((words_Set.f (⟨#[84, 104, 101, 32, 97, 45, 99, 97, 116, 44, 32, 116, 104, 101]⟩ : ByteArray)).bind fun bt112 => ((columbariumref10_Texts.f k bt108.1 (([(⟨#[116, 104, 101]⟩ : ByteArray), (⟨#[99, 97, 116]⟩ : ByteArray), (⟨#[116, 104, 101]⟩ : ByteArray)] : List ByteArray))).bind fun t119 => (if t119 = true then (if bt108.2 = 0 then ((columbariumref10_Texts.f k bt112.1 (([(⟨#[99, 97, 116]⟩ : ByteArray), (⟨#[116, 104, 101]⟩ : ByteArray)] : List ByteArray))).bind fun t123 => (if t123 = true then (if bt112.2 = 0 then ((words_May.f k (⟨#[99, 97, 116]⟩ : ByteArray)).bind fun t124 => (if t124 = true then ((words_May.f k (⟨#[67, 97, 116]⟩ : ByteArray)).bind fun t125 => (if t125 = true then (none) else ((words_Sign.f k 65).bind fun t126 => (if t126 = 97 then ((words_Sign.f k 45).bind fun t127 => (some (t127 == 0))) else (none))))) else (none))) else (none)) else (none))) else (none)) else (none))))
theorem columbariumlaw16_awake.mono : ∀ k, LeO (columbariumlaw16_awake.f k ) (columbariumlaw16_awake.f (k + 1) ) := by
  intro  k
  unfold columbariumlaw16_awake.f
  repeat' first
      | (with_reducible exact columbariumref10_Texts.mono _ _ _)
      | (with_reducible exact words_May.mono _ _)
      | (with_reducible exact words_Sign.mono _ _)
      | (with_reducible exact LeO.refl _)
      | (with_reducible exact LeO.none _)
      | (with_reducible refine LeO.ite ?_ ?_)
      | (with_reducible refine LeO.bind ?_ (fun _ => ?_))
      | exact columbariumref10_Texts.mono _ _ _
      | exact words_May.mono _ _
      | exact words_Sign.mono _ _
      | exact LeO.none _
      | refine LeO.ite ?_ ?_
      | refine LeO.bind ?_ (fun _ => ?_)
set_option maxHeartbeats 8000000 in
set_option maxRecDepth 100000 in
theorem columbariumlaw16_awake.calls (k : Nat)  (r : Bool) (w : World) (h : columbariumlaw16_awake.f k  = some r) :
    Calls Try.prog 8 #[] w fun e w' => e = .returned (.bool r) ∧ Below w.heap.size w w' := by
  have HB := Aside0.mk (Below.refl w.heap.size w)
  have H : ((words_Split.f (⟨#[84, 104, 101, 32, 97, 45, 99, 97, 116, 44, 32, 116, 104, 101]⟩ : ByteArray)).bind fun bt108 => ((words_Set.f (⟨#[84, 104, 101, 32, 97, 45, 99, 97, 116, 44, 32, 116, 104, 101]⟩ : ByteArray)).bind fun bt112 => ((columbariumref10_Texts.f k bt108.1 (([(⟨#[116, 104, 101]⟩ : ByteArray), (⟨#[99, 97, 116]⟩ : ByteArray), (⟨#[116, 104, 101]⟩ : ByteArray)] : List ByteArray))).bind fun t119 => (if t119 = true then (if bt108.2 = 0 then ((columbariumref10_Texts.f k bt112.1 (([(⟨#[99, 97, 116]⟩ : ByteArray), (⟨#[116, 104, 101]⟩ : ByteArray)] : List ByteArray))).bind fun t123 => (if t123 = true then (if bt112.2 = 0 then ((words_May.f k (⟨#[99, 97, 116]⟩ : ByteArray)).bind fun t124 => (if t124 = true then ((words_May.f k (⟨#[67, 97, 116]⟩ : ByteArray)).bind fun t125 => (if t125 = true then (none) else ((words_Sign.f k 65).bind fun t126 => (if t126 = 97 then ((words_Sign.f k 45).bind fun t127 => (some (t127 == 0))) else (none))))) else (none))) else (none)) else (none))) else (none)) else (none))))) = some r := h
  clear h
  replace H := Option.bind_eq_some_iff.mp H
  obtain ⟨⟨t108, t111⟩, A10, H⟩ := H
  replace H : ((words_Set.f (⟨#[84, 104, 101, 32, 97, 45, 99, 97, 116, 44, 32, 116, 104, 101]⟩ : ByteArray)).bind fun bt112 => ((columbariumref10_Texts.f k t108 (([(⟨#[116, 104, 101]⟩ : ByteArray), (⟨#[99, 97, 116]⟩ : ByteArray), (⟨#[116, 104, 101]⟩ : ByteArray)] : List ByteArray))).bind fun t119 => (if t119 = true then (if t111 = 0 then ((columbariumref10_Texts.f k bt112.1 (([(⟨#[99, 97, 116]⟩ : ByteArray), (⟨#[116, 104, 101]⟩ : ByteArray)] : List ByteArray))).bind fun t123 => (if t123 = true then (if bt112.2 = 0 then ((words_May.f k (⟨#[99, 97, 116]⟩ : ByteArray)).bind fun t124 => (if t124 = true then ((words_May.f k (⟨#[67, 97, 116]⟩ : ByteArray)).bind fun t125 => (if t125 = true then (none) else ((words_Sign.f k 65).bind fun t126 => (if t126 = 97 then ((words_Sign.f k 45).bind fun t127 => (some (t127 == 0))) else (none))))) else (none))) else (none)) else (none))) else (none)) else (none)))) = some r := H
  have A1 := Aside0.mk A10
  clear A10
  replace H := Option.bind_eq_some_iff.mp H
  obtain ⟨⟨t112, t115⟩, A20, H⟩ := H
  replace H : ((columbariumref10_Texts.f k t108 (([(⟨#[116, 104, 101]⟩ : ByteArray), (⟨#[99, 97, 116]⟩ : ByteArray), (⟨#[116, 104, 101]⟩ : ByteArray)] : List ByteArray))).bind fun t119 => (if t119 = true then (if t111 = 0 then ((columbariumref10_Texts.f k t112 (([(⟨#[99, 97, 116]⟩ : ByteArray), (⟨#[116, 104, 101]⟩ : ByteArray)] : List ByteArray))).bind fun t123 => (if t123 = true then (if t115 = 0 then ((words_May.f k (⟨#[99, 97, 116]⟩ : ByteArray)).bind fun t124 => (if t124 = true then ((words_May.f k (⟨#[67, 97, 116]⟩ : ByteArray)).bind fun t125 => (if t125 = true then (none) else ((words_Sign.f k 65).bind fun t126 => (if t126 = 97 then ((words_Sign.f k 45).bind fun t127 => (some (t127 == 0))) else (none))))) else (none))) else (none)) else (none))) else (none)) else (none))) = some r := H
  have A2 := Aside0.mk A20
  clear A20
  obtain ⟨y116, hy116⟩ : ∃ y_ : List ByteArray, y_ = (([(⟨#[116, 104, 101]⟩ : ByteArray), (⟨#[99, 97, 116]⟩ : ByteArray), (⟨#[116, 104, 101]⟩ : ByteArray)] : List ByteArray)) := ⟨_, rfl⟩
  replace H : ((columbariumref10_Texts.f k t108 y116).bind fun t119 => (if t119 = true then (if t111 = 0 then ((columbariumref10_Texts.f k t112 (([(⟨#[99, 97, 116]⟩ : ByteArray), (⟨#[116, 104, 101]⟩ : ByteArray)] : List ByteArray))).bind fun t123 => (if t123 = true then (if t115 = 0 then ((words_May.f k (⟨#[99, 97, 116]⟩ : ByteArray)).bind fun t124 => (if t124 = true then ((words_May.f k (⟨#[67, 97, 116]⟩ : ByteArray)).bind fun t125 => (if t125 = true then (none) else ((words_Sign.f k 65).bind fun t126 => (if t126 = 97 then ((words_Sign.f k 45).bind fun t127 => (some (t127 == 0))) else (none))))) else (none))) else (none)) else (none))) else (none)) else (none))) = some r := by first | (rw [hy116]; with_reducible exact H) | (have H2_ := (Option.bind_some _ _).symm.trans H; rw [hy116]; with_reducible exact H2_) | (have H2_ := (Option.bind_some _ _).symm.trans H; with_reducible exact H2_) | with_reducible exact H | (rw [hy116]; exact H) | exact H
  have Ny116 := Aside0.mk hy116
  clear hy116
  replace H := Option.bind_eq_some_iff.mp H
  obtain ⟨t119, A30, H⟩ := H
  replace H : (if t119 = true then (if t111 = 0 then ((columbariumref10_Texts.f k t112 (([(⟨#[99, 97, 116]⟩ : ByteArray), (⟨#[116, 104, 101]⟩ : ByteArray)] : List ByteArray))).bind fun t123 => (if t123 = true then (if t115 = 0 then ((words_May.f k (⟨#[99, 97, 116]⟩ : ByteArray)).bind fun t124 => (if t124 = true then ((words_May.f k (⟨#[67, 97, 116]⟩ : ByteArray)).bind fun t125 => (if t125 = true then (none) else ((words_Sign.f k 65).bind fun t126 => (if t126 = 97 then ((words_Sign.f k 45).bind fun t127 => (some (t127 == 0))) else (none))))) else (none))) else (none)) else (none))) else (none)) else (none)) = some r := H
  have A3 := Aside0.mk A30
  clear A30
  by_cases c4 : t119 = true
  · subst c4
    have H1 : (if t111 = 0 then ((columbariumref10_Texts.f k t112 (([(⟨#[99, 97, 116]⟩ : ByteArray), (⟨#[116, 104, 101]⟩ : ByteArray)] : List ByteArray))).bind fun t123 => (if t123 = true then (if t115 = 0 then ((words_May.f k (⟨#[99, 97, 116]⟩ : ByteArray)).bind fun t124 => (if t124 = true then ((words_May.f k (⟨#[67, 97, 116]⟩ : ByteArray)).bind fun t125 => (if t125 = true then (none) else ((words_Sign.f k 65).bind fun t126 => (if t126 = 97 then ((words_Sign.f k 45).bind fun t127 => (some (t127 == 0))) else (none))))) else (none))) else (none)) else (none))) else (none)) = some r := by rw [if_pos rfl] at H; exact H
    clear H
    have H := H1
    clear H1
    by_cases c5 : t111 = 0
    · rw [if_pos c5] at H
      have c5b0 : (t111 == 0) = true := beq_iff_eq.mpr c5
      have c5b1 : (t111 != 0) = false := bne_eq_false_iff_eq.mpr c5
      clear c5
      obtain ⟨y120, hy120⟩ : ∃ y_ : List ByteArray, y_ = (([(⟨#[99, 97, 116]⟩ : ByteArray), (⟨#[116, 104, 101]⟩ : ByteArray)] : List ByteArray)) := ⟨_, rfl⟩
      replace H : ((columbariumref10_Texts.f k t112 y120).bind fun t123 => (if t123 = true then (if t115 = 0 then ((words_May.f k (⟨#[99, 97, 116]⟩ : ByteArray)).bind fun t124 => (if t124 = true then ((words_May.f k (⟨#[67, 97, 116]⟩ : ByteArray)).bind fun t125 => (if t125 = true then (none) else ((words_Sign.f k 65).bind fun t126 => (if t126 = 97 then ((words_Sign.f k 45).bind fun t127 => (some (t127 == 0))) else (none))))) else (none))) else (none)) else (none))) = some r := by first | (rw [hy120]; with_reducible exact H) | (have H2_ := (Option.bind_some _ _).symm.trans H; rw [hy120]; with_reducible exact H2_) | (have H2_ := (Option.bind_some _ _).symm.trans H; with_reducible exact H2_) | with_reducible exact H | (rw [hy120]; exact H) | exact H
      have Ny120 := Aside0.mk hy120
      clear hy120
      replace H := Option.bind_eq_some_iff.mp H
      obtain ⟨t123, A60, H⟩ := H
      replace H : (if t123 = true then (if t115 = 0 then ((words_May.f k (⟨#[99, 97, 116]⟩ : ByteArray)).bind fun t124 => (if t124 = true then ((words_May.f k (⟨#[67, 97, 116]⟩ : ByteArray)).bind fun t125 => (if t125 = true then (none) else ((words_Sign.f k 65).bind fun t126 => (if t126 = 97 then ((words_Sign.f k 45).bind fun t127 => (some (t127 == 0))) else (none))))) else (none))) else (none)) else (none)) = some r := H
      have A6 := Aside0.mk A60
      clear A60
      by_cases c7 : t123 = true
      · subst c7
        have H1 : (if t115 = 0 then ((words_May.f k (⟨#[99, 97, 116]⟩ : ByteArray)).bind fun t124 => (if t124 = true then ((words_May.f k (⟨#[67, 97, 116]⟩ : ByteArray)).bind fun t125 => (if t125 = true then (none) else ((words_Sign.f k 65).bind fun t126 => (if t126 = 97 then ((words_Sign.f k 45).bind fun t127 => (some (t127 == 0))) else (none))))) else (none))) else (none)) = some r := by rw [if_pos rfl] at H; exact H
        clear H
        have H := H1
        clear H1
        by_cases c8 : t115 = 0
        · rw [if_pos c8] at H
          have c8b0 : (t115 == 0) = true := beq_iff_eq.mpr c8
          have c8b1 : (t115 != 0) = false := bne_eq_false_iff_eq.mpr c8
          clear c8
          replace H := Option.bind_eq_some_iff.mp H
          obtain ⟨t124, A90, H⟩ := H
          replace H : (if t124 = true then ((words_May.f k (⟨#[67, 97, 116]⟩ : ByteArray)).bind fun t125 => (if t125 = true then (none) else ((words_Sign.f k 65).bind fun t126 => (if t126 = 97 then ((words_Sign.f k 45).bind fun t127 => (some (t127 == 0))) else (none))))) else (none)) = some r := H
          have A9 := Aside0.mk A90
          clear A90
          by_cases c10 : t124 = true
          · subst c10
            have H1 : ((words_May.f k (⟨#[67, 97, 116]⟩ : ByteArray)).bind fun t125 => (if t125 = true then (none) else ((words_Sign.f k 65).bind fun t126 => (if t126 = 97 then ((words_Sign.f k 45).bind fun t127 => (some (t127 == 0))) else (none))))) = some r := by rw [if_pos rfl] at H; exact H
            clear H
            have H := H1
            clear H1
            replace H := Option.bind_eq_some_iff.mp H
            obtain ⟨t125, A110, H⟩ := H
            replace H : (if t125 = true then (none) else ((words_Sign.f k 65).bind fun t126 => (if t126 = 97 then ((words_Sign.f k 45).bind fun t127 => (some (t127 == 0))) else (none)))) = some r := H
            have A11 := Aside0.mk A110
            clear A110
            by_cases c12 : t125 = true
            · subst c12
              have H1 : (none) = some r := by rw [if_pos rfl] at H; exact H
              clear H
              have H := H1
              clear H1
              exact absurd H (by simp)
            · replace c12 := Bool.eq_false_iff.mpr c12
              subst c12
              have H1 : ((words_Sign.f k 65).bind fun t126 => (if t126 = 97 then ((words_Sign.f k 45).bind fun t127 => (some (t127 == 0))) else (none))) = some r := by rw [if_neg (show ¬ (false = true) by decide)] at H; exact H
              clear H
              have H := H1
              clear H1
              replace H := Option.bind_eq_some_iff.mp H
              obtain ⟨t126, A130, H⟩ := H
              replace H : (if t126 = 97 then ((words_Sign.f k 45).bind fun t127 => (some (t127 == 0))) else (none)) = some r := H
              have A13 := Aside0.mk A130
              clear A130
              by_cases c14 : t126 = 97
              · rw [if_pos c14] at H
                have c14b0 : (t126 == 97) = true := beq_iff_eq.mpr c14
                have c14b1 : (t126 != 97) = false := bne_eq_false_iff_eq.mpr c14
                clear c14
                replace H := Option.bind_eq_some_iff.mp H
                obtain ⟨t127, A150, H⟩ := H
                replace H : (some (t127 == 0)) = some r := H
                have A15 := Aside0.mk A150
                clear A150
                obtain rfl := Option.some.inj H
                go_enter Try.func8, Try.ntmps8
                go_wp2_with (first | ((with_reducible refine gate_callee (f := 11) rfl ?_); refine goesL_ (some 6) rfl rfl Try.func11 (by kernel_rfl) rfl #[.string (⟨#[84, 104, 101, 32, 97, 45, 99, 97, 116, 44, 32, 116, 104, 101]⟩ : ByteArray)] rfl (by (try simp only [List.map_toArray, List.map_cons, List.map_nil]); first | done | rfl | (simp only [List.length_drop, List.length_take]; rfl)) ?_; (with_reducible refine (words_Split.calls (⟨#[84, 104, 101, 32, 97, 45, 99, 97, 116, 44, 32, 116, 104, 101]⟩ : ByteArray) t108 t111 _ A1.out).mono ?_); rintro e w16 ⟨v109, rfl, ho0, hb⟩; refine ⟨_, rfl, ?_⟩; have n0_ := Aside0.mk (Kd.V_lower (Kd.V_mono (ok' := fun k_ => True) ho0 (fun k_ hk_ => trivial)) (below_size (by repeat (first | (with_reducible first | exact HB.out | apply below_alloc | apply pw_below_drewN | apply below_drew1) | exact HB.out)))); have n1_ := Aside0.mk (below_step (by repeat (first | (with_reducible first | exact HB.out | apply below_alloc | apply pw_below_drewN | apply below_drew1) | exact HB.out)) hb); clear HB; have HO110 := n0_; have HB := n1_; clear n0_ n1_; (try clear hb); (try clear hb2); (try clear hk); (try clear hi); (try clear ho0)) | ((with_reducible refine gate_callee (f := 13) rfl ?_); refine goesL_ (some 10) rfl rfl Try.func13 (by kernel_rfl) rfl #[.string (⟨#[84, 104, 101, 32, 97, 45, 99, 97, 116, 44, 32, 116, 104, 101]⟩ : ByteArray)] rfl (by (try simp only [List.map_toArray, List.map_cons, List.map_nil]); first | done | rfl | (simp only [List.length_drop, List.length_take]; rfl)) ?_; (with_reducible refine (words_Set.calls (⟨#[84, 104, 101, 32, 97, 45, 99, 97, 116, 44, 32, 116, 104, 101]⟩ : ByteArray) t112 t115 _ A2.out).mono ?_); rintro e w17 ⟨v113, rfl, ho0, hb⟩; refine ⟨_, rfl, ?_⟩; have n0_ := Aside0.mk (Kd.V_below (by (with_reducible repeat (first | apply Kd.V_alloc | apply Kd.V_drewN | apply Kd.V_drew)); exact HO110.out) hb); have n1_ := Aside0.mk (Kd.V_lower (Kd.V_mono (ok' := fun k_ => True) ho0 (fun k_ hk_ => trivial)) (below_size (by repeat (first | (with_reducible first | exact HB.out | apply below_alloc | apply pw_below_drewN | apply below_drew1) | exact HB.out)))); have n2_ := Aside0.mk (below_step (by repeat (first | (with_reducible first | exact HB.out | apply below_alloc | apply pw_below_drewN | apply below_drew1) | exact HB.out)) hb); clear HO110; clear HB; have HO110 := n0_; have HO114 := n1_; have HB := n2_; clear n0_ n1_ n2_; (try clear hb); (try clear hb2); (try clear hk); (try clear hi); (try clear ho0)) | ((with_reducible refine gate_dst (N := 14) rfl ?_); (try (refine gate_guard (by rfl) ?_; dsimp only)); refine Kd.R_lit Kd.string _ 9 ?hg (N := 14) ?hd (xs := ([(⟨#[116, 104, 101]⟩ : ByteArray), (⟨#[99, 97, 116]⟩ : ByteArray), (⟨#[116, 104, 101]⟩ : ByteArray)] : List ByteArray)) (inner := [.string (⟨#[116, 104, 101]⟩ : ByteArray), .string (⟨#[99, 97, 116]⟩ : ByteArray), .string (⟨#[116, 104, 101]⟩ : ByteArray)]) (ok := fun _ => True) (okp := fun _ => True) ?hr ?hp (fun _ hk => hk) trivial (Below.refl _ _) (Nat.le_refl _) (by simp) ?_; (case hd => rfl); (case hg => rfl); (case hr => first | (go_simp; done) | (go_simp; rfl)); (case hp => exact (Reps.one (show Kd.M Kd.string _ _ _ (⟨#[116, 104, 101]⟩ : ByteArray) [.string (⟨#[116, 104, 101]⟩ : ByteArray)] from rfl) (Reps.one (show Kd.M Kd.string _ _ _ (⟨#[99, 97, 116]⟩ : ByteArray) [.string (⟨#[99, 97, 116]⟩ : ByteArray)] from rfl) (Reps.one (show Kd.M Kd.string _ _ _ (⟨#[116, 104, 101]⟩ : ByteArray) [.string (⟨#[116, 104, 101]⟩ : ByteArray)] from rfl) (Reps.none _ _))))); intro v117 w18 ho19 hb hg_ hnew_; clear hg_ hnew_; (first | rw [← Ny116.out] at ho19 | (simp only [Int.reduceToNat] at ho19; rw [← Ny116.out] at ho19)); have n0_ := Aside0.mk (Kd.V_elder' (by (with_reducible repeat (first | apply Kd.V_alloc | apply Kd.V_drewN | apply Kd.V_drew)); exact HO110.out) (Kd.R_base ho19) hb); have n1_ := Aside0.mk (Kd.V_elder' (by (with_reducible repeat (first | apply Kd.V_alloc | apply Kd.V_drewN | apply Kd.V_drew)); exact HO114.out) (Kd.R_base ho19) hb); have n2_ := Aside0.mk (Kd.R_lower ho19 (below_size (by repeat (first | (with_reducible first | exact HB.out | apply below_alloc | apply pw_below_drewN | apply below_drew1) | exact HB.out)))); have n3_ := Aside0.mk (below_step (by repeat (first | (with_reducible first | exact HB.out | apply below_alloc | apply pw_below_drewN | apply below_drew1) | exact HB.out)) hb); clear HO110; clear HO114; clear HB; have HO110 := n0_; have HO114 := n1_; have HO118 := n2_; have HB := n3_; clear n0_ n1_ n2_ n3_; clear hb ho19; obtain ⟨Ao20, co20, eo20⟩ := Kd.V_slice HO110.out; subst eo20; obtain ⟨Ao21, co21, eo21⟩ := Kd.R_slice HO118.out; subst eo21) | ((with_reducible refine gate_callee (f := 15) rfl ?_); refine goesL_ (some 15) rfl rfl Try.func15 (by kernel_rfl) rfl #[.slice Ao20 t108.length co20, .slice Ao21 y116.length co21] rfl (by (try simp only [List.map_toArray, List.map_cons, List.map_nil]); first | done | rfl | (simp only [List.length_drop, List.length_take]; rfl)) ?_; (with_reducible refine (columbariumref10_Texts.calls k _ _ t108 _ _ y116 true _ ?side1 ?side2 ?side3 ?side4 A3.out).mono ?_); (case side1 => repeat (first | exact (Kd.V_reads' HO110.out).2.2 | (with_reducible refine Kd.C_alloc ?_ _) | (with_reducible refine Kd.C_drewN ?_ _) | (with_reducible refine Kd.C_drew ?_))); (case side2 => exact (Kd.V_reads' HO110.out).2.1); (case side3 => repeat (first | exact (Kd.R_reads' HO118.out).2.2 | (with_reducible refine Kd.C_alloc ?_ _) | (with_reducible refine Kd.C_drewN ?_ _) | (with_reducible refine Kd.C_drew ?_))); (case side4 => exact (Kd.R_reads' HO118.out).2.1); rintro e w' ⟨rfl, ⟨nd, rfl⟩⟩; refine ⟨_, rfl, ?_⟩) | ((with_reducible refine gate_dst (N := 22) rfl ?_); (try (refine gate_guard (by rfl) ?_; dsimp only)); refine Kd.R_lit Kd.string _ 9 ?hg (N := 22) ?hd (xs := ([(⟨#[99, 97, 116]⟩ : ByteArray), (⟨#[116, 104, 101]⟩ : ByteArray)] : List ByteArray)) (inner := [.string (⟨#[99, 97, 116]⟩ : ByteArray), .string (⟨#[116, 104, 101]⟩ : ByteArray)]) (ok := fun _ => True) (okp := fun _ => True) ?hr ?hp (fun _ hk => hk) trivial (Below.refl _ _) (Nat.le_refl _) (by simp) ?_; (case hd => rfl); (case hg => rfl); (case hr => first | (go_simp; done) | (go_simp; rfl)); (case hp => exact (Reps.one (show Kd.M Kd.string _ _ _ (⟨#[99, 97, 116]⟩ : ByteArray) [.string (⟨#[99, 97, 116]⟩ : ByteArray)] from rfl) (Reps.one (show Kd.M Kd.string _ _ _ (⟨#[116, 104, 101]⟩ : ByteArray) [.string (⟨#[116, 104, 101]⟩ : ByteArray)] from rfl) (Reps.none _ _)))); intro v121 w22 ho23 hb hg_ hnew_; clear hg_ hnew_; (first | rw [← Ny120.out] at ho23 | (simp only [Int.reduceToNat] at ho23; rw [← Ny120.out] at ho23)); have n0_ := Aside0.mk (Kd.V_elder' (by (with_reducible repeat (first | apply Kd.V_alloc | apply Kd.V_drewN | apply Kd.V_drew)); exact HO110.out) (Kd.R_base ho23) hb); have n1_ := Aside0.mk (Kd.V_elder' (by (with_reducible repeat (first | apply Kd.V_alloc | apply Kd.V_drewN | apply Kd.V_drew)); exact HO114.out) (Kd.R_base ho23) hb); have n2_ := Aside0.mk (Kd.R_elder' (by (with_reducible repeat (first | apply Kd.R_alloc | apply Kd.R_drewN | apply Kd.R_drew)); exact HO118.out) (Kd.R_base ho23) hb); have n3_ := Aside0.mk (Kd.R_lower (Kd.R_new' ho23 (Kd.R_lt (by (with_reducible repeat (first | apply Kd.R_alloc | apply Kd.R_drewN | apply Kd.R_drew)); exact HO118.out))) (below_size (by repeat (first | (with_reducible first | exact HB.out | apply below_alloc | apply pw_below_drewN | apply below_drew1) | exact HB.out)))); have n4_ := Aside0.mk (below_step (by repeat (first | (with_reducible first | exact HB.out | apply below_alloc | apply pw_below_drewN | apply below_drew1) | exact HB.out)) hb); clear HO110; clear HO114; clear HO118; clear HB; have HO110 := n0_; have HO114 := n1_; have HO118 := n2_; have HO122 := n3_; have HB := n4_; clear n0_ n1_ n2_ n3_ n4_; clear hb ho23; obtain ⟨Ao24, co24, eo24⟩ := Kd.V_slice HO114.out; subst eo24; obtain ⟨Ao25, co25, eo25⟩ := Kd.R_slice HO122.out; subst eo25) | (go_at_call 15; (with_reducible refine (columbariumref10_Texts.calls k _ _ t112 _ _ y120 true _ ?side1 ?side2 ?side3 ?side4 A6.out).mono ?_); (case side1 => repeat (first | exact (Kd.V_reads' HO114.out).2.2 | (with_reducible refine Kd.C_alloc ?_ _) | (with_reducible refine Kd.C_drewN ?_ _) | (with_reducible refine Kd.C_drew ?_))); (case side2 => exact (Kd.V_reads' HO114.out).2.1); (case side3 => repeat (first | exact (Kd.R_reads' HO122.out).2.2 | (with_reducible refine Kd.C_alloc ?_ _) | (with_reducible refine Kd.C_drewN ?_ _) | (with_reducible refine Kd.C_drew ?_))); (case side4 => exact (Kd.R_reads' HO122.out).2.1); rintro e w' ⟨rfl, ⟨nd, rfl⟩⟩) | (go_at_call 16; (with_reducible refine (words_May.calls k (⟨#[99, 97, 116]⟩ : ByteArray) true _ A9.out).mono ?_); rintro e w26 ⟨rfl, hb⟩; have n0_ := Aside0.mk (Kd.V_below (by (with_reducible repeat (first | apply Kd.V_alloc | apply Kd.V_drewN | apply Kd.V_drew)); exact HO110.out) hb); have n1_ := Aside0.mk (Kd.V_below (by (with_reducible repeat (first | apply Kd.V_alloc | apply Kd.V_drewN | apply Kd.V_drew)); exact HO114.out) hb); have n2_ := Aside0.mk (Kd.R_below (by (with_reducible repeat (first | apply Kd.R_alloc | apply Kd.R_drewN | apply Kd.R_drew)); exact HO118.out) hb); have n3_ := Aside0.mk (Kd.R_below (by (with_reducible repeat (first | apply Kd.R_alloc | apply Kd.R_drewN | apply Kd.R_drew)); exact HO122.out) hb); have n4_ := Aside0.mk (below_step (by repeat (first | (with_reducible first | exact HB.out | apply below_alloc | apply pw_below_drewN | apply below_drew1) | exact HB.out)) hb); clear HO110; clear HO114; clear HO118; clear HO122; clear HB; have HO110 := n0_; have HO114 := n1_; have HO118 := n2_; have HO122 := n3_; have HB := n4_; clear n0_ n1_ n2_ n3_ n4_; (try clear hb); (try clear hb2); (try clear hk); (try clear hi)) | (go_at_call 16; (with_reducible refine (words_May.calls k (⟨#[67, 97, 116]⟩ : ByteArray) false _ A11.out).mono ?_); rintro e w27 ⟨rfl, hb⟩; have n0_ := Aside0.mk (Kd.V_below (by (with_reducible repeat (first | apply Kd.V_alloc | apply Kd.V_drewN | apply Kd.V_drew)); exact HO110.out) hb); have n1_ := Aside0.mk (Kd.V_below (by (with_reducible repeat (first | apply Kd.V_alloc | apply Kd.V_drewN | apply Kd.V_drew)); exact HO114.out) hb); have n2_ := Aside0.mk (Kd.R_below (by (with_reducible repeat (first | apply Kd.R_alloc | apply Kd.R_drewN | apply Kd.R_drew)); exact HO118.out) hb); have n3_ := Aside0.mk (Kd.R_below (by (with_reducible repeat (first | apply Kd.R_alloc | apply Kd.R_drewN | apply Kd.R_drew)); exact HO122.out) hb); have n4_ := Aside0.mk (below_step (by repeat (first | (with_reducible first | exact HB.out | apply below_alloc | apply pw_below_drewN | apply below_drew1) | exact HB.out)) hb); clear HO110; clear HO114; clear HO118; clear HO122; clear HB; have HO110 := n0_; have HO114 := n1_; have HO118 := n2_; have HO122 := n3_; have HB := n4_; clear n0_ n1_ n2_ n3_ n4_; (try clear hb); (try clear hb2); (try clear hk); (try clear hi)) | (go_at_call 19; (with_reducible refine (words_Sign.calls k 65 t126 _ A13.out).mono ?_); rintro e w' ⟨rfl, ⟨nd, rfl⟩⟩) | (go_at_call 19; (with_reducible refine (words_Sign.calls k 45 t127 _ A15.out).mono ?_); rintro e w' ⟨rfl, ⟨nd, rfl⟩⟩))
                all_goals first | (go_ret; exact ⟨by first | rfl | (simp [errW_none, errW_some] <;> rfl) | (simp [*, errW_none, errW_some] <;> rfl) | (refine congrArg (fun b_ => Ending.returned (Value.bool b_)) (decide_eq_decide.mpr ?_); simp only [mx, mn]; (repeat' split) <;> omega), by repeat (first | (with_reducible first | exact HB.out | apply below_alloc | apply pw_below_drewN | apply below_drew1) | exact HB.out)⟩) | (exfalso; rename_i h_; first | (have h2_ := Int.not_le.mpr h_; simp_all; done) | (simp_all; done) | (simp_all; omega))
              · rw [if_neg c14] at H
                exact absurd H (by simp)
          · replace c10 := Bool.eq_false_iff.mpr c10
            subst c10
            have H1 : (none) = some r := by rw [if_neg (show ¬ (false = true) by decide)] at H; exact H
            clear H
            have H := H1
            clear H1
            exact absurd H (by simp)
        · rw [if_neg c8] at H
          exact absurd H (by simp)
      · replace c7 := Bool.eq_false_iff.mpr c7
        subst c7
        have H1 : (none) = some r := by rw [if_neg (show ¬ (false = true) by decide)] at H; exact H
        clear H
        have H := H1
        clear H1
        exact absurd H (by simp)
    · rw [if_neg c5] at H
      exact absurd H (by simp)
  · replace c4 := Bool.eq_false_iff.mpr c4
    subst c4
    have H1 : (none) = some r := by rw [if_neg (show ¬ (false = true) by decide)] at H; exact H
    clear H
    have H := H1
    clear H1
    exact absurd H (by simp)

/-! ### columbariumlaw16_pick: function 18 -/
def columbariumlaw16_pick.f (a0 : Int) (a1 : Int) : Option (Int) := if a0 < 0 then (if a1 = 0 then (none) else (some (Int.tmod (wrap64 (-(wrap64 (a0 + 1)))) a1))) else (if a1 = 0 then (none) else (some (Int.tmod a0 a1)))
set_option maxHeartbeats 8000000 in
set_option maxRecDepth 100000 in
theorem columbariumlaw16_pick.calls (a0 : Int) (a1 : Int) (r : Int) (w : World) (h : columbariumlaw16_pick.f a0 a1 = some r) :
    Calls Try.prog 18 #[.int .i64 a0, .int .i64 a1] w fun e w' => e = .returned (.int .i64 r) ∧ Drawn0 w w' := by
  have H : (if a0 < 0 then (if a1 = 0 then (none) else (some (Int.tmod (wrap64 (-(wrap64 (a0 + 1)))) a1))) else (if a1 = 0 then (none) else (some (Int.tmod a0 a1)))) = some r := h
  clear h
  by_cases c3 : a0 < 0
  · rw [if_pos c3] at H
    have c3b0 : decide (a0 < 0) = true := decide_eq_true c3
    clear c3
    by_cases c4 : a1 = 0
    · rw [if_pos c4] at H
      exact absurd H (by simp)
    · rw [if_neg c4] at H
      have c4b0 : (a1 == 0) = false := beq_eq_false_iff_ne.mpr c4
      have c4b1 : (a1 != 0) = true := bne_iff_ne.mpr c4
      obtain rfl := Option.some.inj H
      go_enter Try.func18, Try.ntmps18
      go_wp2
      all_goals first | (go_ret; exact ⟨by first | rfl | (simp; done) | (simp [*]; done) | (refine congrArg (fun b_ => Ending.returned (Value.bool b_)) (decide_eq_decide.mpr ?_); simp only [mx, mn]; (repeat' split) <;> omega), by repeat (first | exact Drawn0.refl _ | apply Drawn0.step)⟩) | (exfalso; rename_i h_; first | (have h2_ := Int.not_le.mpr h_; simp_all; done) | (simp_all; done) | (simp_all; omega))
  · rw [if_neg c3] at H
    have c3b0 : decide (a0 < 0) = false := decide_eq_false c3
    clear c3
    by_cases c5 : a1 = 0
    · rw [if_pos c5] at H
      exact absurd H (by simp)
    · rw [if_neg c5] at H
      have c5b0 : (a1 == 0) = false := beq_eq_false_iff_ne.mpr c5
      have c5b1 : (a1 != 0) = true := bne_iff_ne.mpr c5
      obtain rfl := Option.some.inj H
      go_enter Try.func18, Try.ntmps18
      go_wp2
      all_goals first | (go_ret; exact ⟨by first | rfl | (simp; done) | (simp [*]; done) | (refine congrArg (fun b_ => Ending.returned (Value.bool b_)) (decide_eq_decide.mpr ?_); simp only [mx, mn]; (repeat' split) <;> omega), by repeat (first | exact Drawn0.refl _ | apply Drawn0.step)⟩) | (exfalso; rename_i h_; first | (have h2_ := Int.not_le.mpr h_; simp_all; done) | (simp_all; done) | (simp_all; omega))

/-! ### columbariumlaw16_Word: function 22 -/
def columbariumlaw16_Word.f (a0 : Int) : Option (ByteArray) := (some (([(⟨#[99, 97, 116]⟩ : ByteArray), (⟨#[100, 111, 103]⟩ : ByteArray), (⟨#[111, 120]⟩ : ByteArray), (⟨#[116, 104, 101]⟩ : ByteArray), (⟨#[119, 111, 114, 100, 48]⟩ : ByteArray), (⟨#[97, 97]⟩ : ByteArray), (⟨#[122, 101, 98, 114, 97]⟩ : ByteArray), (⟨#[120, 57]⟩ : ByteArray), (⟨#[108, 111, 110, 103, 108, 111, 110, 103, 108, 111, 110, 103, 108, 111, 110, 103, 108, 111, 110, 103]⟩ : ByteArray)] : List ByteArray) : List ByteArray)).bind fun y128 => ((columbariumlaw16_pick.f a0 9).bind fun t131 => (if 0 ≤ t131 then (if t131 < (y128.length : Int) then (some (rdOf ByteArray.empty y128 t131)) else (none)) else (none)))
set_option maxHeartbeats 8000000 in
set_option maxRecDepth 100000 in
theorem columbariumlaw16_Word.calls (a0 : Int) (r : ByteArray) (w : World) (h : columbariumlaw16_Word.f a0 = some r) :
    Calls Try.prog 22 #[.int .i64 a0] w fun e w' => e = .returned (.string r) ∧ Below w.heap.size w w' := by
  have HB := Aside0.mk (Below.refl w.heap.size w)
  have H : ((some (([(⟨#[99, 97, 116]⟩ : ByteArray), (⟨#[100, 111, 103]⟩ : ByteArray), (⟨#[111, 120]⟩ : ByteArray), (⟨#[116, 104, 101]⟩ : ByteArray), (⟨#[119, 111, 114, 100, 48]⟩ : ByteArray), (⟨#[97, 97]⟩ : ByteArray), (⟨#[122, 101, 98, 114, 97]⟩ : ByteArray), (⟨#[120, 57]⟩ : ByteArray), (⟨#[108, 111, 110, 103, 108, 111, 110, 103, 108, 111, 110, 103, 108, 111, 110, 103, 108, 111, 110, 103]⟩ : ByteArray)] : List ByteArray) : List ByteArray)).bind fun y128 => ((columbariumlaw16_pick.f a0 9).bind fun t131 => (if 0 ≤ t131 then (if t131 < (y128.length : Int) then (some (rdOf ByteArray.empty y128 t131)) else (none)) else (none)))) = some r := h
  clear h
  obtain ⟨y128, hy128⟩ : ∃ y_ : List ByteArray, y_ = (([(⟨#[99, 97, 116]⟩ : ByteArray), (⟨#[100, 111, 103]⟩ : ByteArray), (⟨#[111, 120]⟩ : ByteArray), (⟨#[116, 104, 101]⟩ : ByteArray), (⟨#[119, 111, 114, 100, 48]⟩ : ByteArray), (⟨#[97, 97]⟩ : ByteArray), (⟨#[122, 101, 98, 114, 97]⟩ : ByteArray), (⟨#[120, 57]⟩ : ByteArray), (⟨#[108, 111, 110, 103, 108, 111, 110, 103, 108, 111, 110, 103, 108, 111, 110, 103, 108, 111, 110, 103]⟩ : ByteArray)] : List ByteArray)) := ⟨_, rfl⟩
  replace H : ((columbariumlaw16_pick.f a0 9).bind fun t131 => (if 0 ≤ t131 then (if t131 < (y128.length : Int) then (some (rdOf ByteArray.empty y128 t131)) else (none)) else (none))) = some r := by first | (rw [hy128]; with_reducible exact H) | (have H2_ := (Option.bind_some _ _).symm.trans H; rw [hy128]; with_reducible exact H2_) | (have H2_ := (Option.bind_some _ _).symm.trans H; with_reducible exact H2_) | with_reducible exact H | (rw [hy128]; exact H) | exact H
  have Ny128 := Aside0.mk hy128
  clear hy128
  replace H := Option.bind_eq_some_iff.mp H
  obtain ⟨t131, A20, H⟩ := H
  replace H : (if 0 ≤ t131 then (if t131 < (y128.length : Int) then (some (rdOf ByteArray.empty y128 t131)) else (none)) else (none)) = some r := H
  have A2 := Aside0.mk A20
  clear A20
  by_cases c3 : 0 ≤ t131
  · rw [if_pos c3] at H
    have c3b0 : decide (0 ≤ t131) = true := decide_eq_true c3
    clear c3
    by_cases c4 : t131 < (y128.length : Int)
    · rw [if_pos c4] at H
      have c4b0 : decide (t131 < (y128.length : Int)) = true := decide_eq_true c4
      clear c4
      obtain rfl := Option.some.inj H
      go_enter Try.func22, Try.ntmps22
      go_wp2_with (first | ((with_reducible refine gate_dst (N := 3) rfl ?_); refine Kd.R_lit Kd.string _ 9 ?hg (N := 3) ?hd (xs := ([(⟨#[99, 97, 116]⟩ : ByteArray), (⟨#[100, 111, 103]⟩ : ByteArray), (⟨#[111, 120]⟩ : ByteArray), (⟨#[116, 104, 101]⟩ : ByteArray), (⟨#[119, 111, 114, 100, 48]⟩ : ByteArray), (⟨#[97, 97]⟩ : ByteArray), (⟨#[122, 101, 98, 114, 97]⟩ : ByteArray), (⟨#[120, 57]⟩ : ByteArray), (⟨#[108, 111, 110, 103, 108, 111, 110, 103, 108, 111, 110, 103, 108, 111, 110, 103, 108, 111, 110, 103]⟩ : ByteArray)] : List ByteArray)) (inner := [.string (⟨#[99, 97, 116]⟩ : ByteArray), .string (⟨#[100, 111, 103]⟩ : ByteArray), .string (⟨#[111, 120]⟩ : ByteArray), .string (⟨#[116, 104, 101]⟩ : ByteArray), .string (⟨#[119, 111, 114, 100, 48]⟩ : ByteArray), .string (⟨#[97, 97]⟩ : ByteArray), .string (⟨#[122, 101, 98, 114, 97]⟩ : ByteArray), .string (⟨#[120, 57]⟩ : ByteArray), .string (⟨#[108, 111, 110, 103, 108, 111, 110, 103, 108, 111, 110, 103, 108, 111, 110, 103, 108, 111, 110, 103]⟩ : ByteArray)]) (ok := fun _ => True) (okp := fun _ => True) ?hr ?hp (fun _ hk => hk) trivial (Below.refl _ _) (Nat.le_refl _) (by simp) ?_; (case hd => rfl); (case hg => rfl); (case hr => first | (go_simp; done) | (go_simp; rfl)); (case hp => exact (Reps.one (show Kd.M Kd.string _ _ _ (⟨#[99, 97, 116]⟩ : ByteArray) [.string (⟨#[99, 97, 116]⟩ : ByteArray)] from rfl) (Reps.one (show Kd.M Kd.string _ _ _ (⟨#[100, 111, 103]⟩ : ByteArray) [.string (⟨#[100, 111, 103]⟩ : ByteArray)] from rfl) (Reps.one (show Kd.M Kd.string _ _ _ (⟨#[111, 120]⟩ : ByteArray) [.string (⟨#[111, 120]⟩ : ByteArray)] from rfl) (Reps.one (show Kd.M Kd.string _ _ _ (⟨#[116, 104, 101]⟩ : ByteArray) [.string (⟨#[116, 104, 101]⟩ : ByteArray)] from rfl) (Reps.one (show Kd.M Kd.string _ _ _ (⟨#[119, 111, 114, 100, 48]⟩ : ByteArray) [.string (⟨#[119, 111, 114, 100, 48]⟩ : ByteArray)] from rfl) (Reps.one (show Kd.M Kd.string _ _ _ (⟨#[97, 97]⟩ : ByteArray) [.string (⟨#[97, 97]⟩ : ByteArray)] from rfl) (Reps.one (show Kd.M Kd.string _ _ _ (⟨#[122, 101, 98, 114, 97]⟩ : ByteArray) [.string (⟨#[122, 101, 98, 114, 97]⟩ : ByteArray)] from rfl) (Reps.one (show Kd.M Kd.string _ _ _ (⟨#[120, 57]⟩ : ByteArray) [.string (⟨#[120, 57]⟩ : ByteArray)] from rfl) (Reps.one (show Kd.M Kd.string _ _ _ (⟨#[108, 111, 110, 103, 108, 111, 110, 103, 108, 111, 110, 103, 108, 111, 110, 103, 108, 111, 110, 103]⟩ : ByteArray) [.string (⟨#[108, 111, 110, 103, 108, 111, 110, 103, 108, 111, 110, 103, 108, 111, 110, 103, 108, 111, 110, 103]⟩ : ByteArray)] from rfl) (Reps.none _ _))))))))))); intro v129 w5 ho6 hb hg_ hnew_; clear hg_ hnew_; (first | rw [← Ny128.out] at ho6 | (simp only [Int.reduceToNat] at ho6; rw [← Ny128.out] at ho6)); have n0_ := Aside0.mk (Kd.R_lower ho6 (below_size (by repeat (first | (with_reducible first | exact HB.out | apply below_alloc | apply pw_below_drewN | apply below_drew1) | exact HB.out)))); have n1_ := Aside0.mk (below_step (by repeat (first | (with_reducible first | exact HB.out | apply below_alloc | apply pw_below_drewN | apply below_drew1) | exact HB.out)) hb); clear HB; have HO130 := n0_; have HB := n1_; clear n0_ n1_; clear hb ho6) | ((with_reducible refine gate_callee (f := 18) rfl ?_); refine goesL_ (some 5) rfl rfl Try.func18 (by kernel_rfl) rfl #[.int .i64 a0, .int .i64 9] rfl (by (try simp only [List.map_toArray, List.map_cons, List.map_nil]); first | done | rfl | (simp only [List.length_drop, List.length_take]; rfl)) ?_; (with_reducible refine (columbariumlaw16_pick.calls a0 9 t131 _ A2.out).mono ?_); rintro e w' ⟨rfl, ⟨nd, rfl⟩⟩; refine ⟨_, rfl, ?_⟩; obtain ⟨Ao7, co7, eo7⟩ := Kd.R_slice HO130.out; subst eo7; have p132 : 0 ≤ (t131 : Int) := of_decide_eq_true (by first | (with_reducible assumption) | assumption); have q132 : t131 < (y128.length : Int) := of_decide_eq_true (by first | (with_reducible assumption) | assumption); obtain ⟨ad132, e132, hx132_0⟩ := Kd.at_string (Kd.R_reads' HO130.out).2.2 t131 p132 q132; cases e132; replace p132 := eq_true p132; replace q132 := eq_true q132))
      all_goals first | (go_ret; exact ⟨by first | rfl | (simp [errW_none, errW_some] <;> rfl) | (simp [*, errW_none, errW_some] <;> rfl) | (refine congrArg (fun b_ => Ending.returned (Value.bool b_)) (decide_eq_decide.mpr ?_); simp only [mx, mn]; (repeat' split) <;> omega), by repeat (first | (with_reducible first | exact HB.out | apply below_alloc | apply pw_below_drewN | apply below_drew1) | exact HB.out)⟩) | (exfalso; rename_i h_; first | (have h2_ := Int.not_le.mpr h_; simp_all; done) | (simp_all; done) | (simp_all; omega))
    · rw [if_neg c4] at H
      exact absurd H (by simp)
  · rw [if_neg c3] at H
    exact absurd H (by simp)

end Go.Proofs.Ytpmjnggkhjjiaaa.A
