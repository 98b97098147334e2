-- Written by program (this session's myprint.py over the kit's print.py). Not trusted: Lean checks it.
import Derived.Test.YtpmjnggkhjjiaaaAx0
import Derived.Test.YtpmjnggkhjjiaaaAx1
import Derived.Test.YtpmjnggkhjjiaaaAx5
import Derived.Test.YtpmjnggkhjjiaaaAx6
import Derived.Test.YtpmjnggkhjjiaaaHandSplit
namespace Go.Proofs.Ytpmjnggkhjjiaaa.A
open Go.RowKit Go.Proofs.YtpmjnggkhjjiaaaW.PrintWords Go.Proofs.YtpmjnggkhjjiaaaW.PrintLast Go.Proofs.YtpmjnggkhjjiaaaW.PrintMore
attribute [local go_sem] str_gtr str_leq max2_int min2_int max_two min_two max_three min_three max_four min_four   -- for this text's walks alone
set_option linter.unusedVariables false
set_option linter.unusedSimpArgs false

/-! ### columbariumlaw16_WordsSigns: function 6 -/
def columbariumlaw16_WordsSigns.l0 : Nat → Int → Bool → Int → Int → List Int → Int → Option (Bool)
  | 0, _, _, _, _, _, _ => none
  | k + 1, x0, x5, x6, x7, x8, x9 => if x9 < x7 then (if x8.length < 140737488355328 then (columbariumlaw16_WordsSigns.l0 k x0 x5 x6 x7 (x8 ++ [x0]) (wrap64 (x9 + 1))) else (none)) else ((words_Split.f (strOfNums x8)).bind fun bt310 => (if bt310.2 = 0 then (if x6 = 0 then (if x5 = true then (if (bt310.1.length : Int) = 0 then ((words_May.f k (strOfNums x8)).bind fun t314 => (some (!t314))) else (none)) else (none)) else ((words_Sign.f k x6).bind fun t315 => (if t315 = x6 then (if x7 < 2 then (if x5 = true then (if (bt310.1.length : Int) = 0 then ((words_May.f k (strOfNums x8)).bind fun t316 => (some (!t316))) else (none)) else (none)) else (if x5 = true then (if (bt310.1.length : Int) = 1 then (if 0 < (bt310.1.length : Int) then (if ((rdOf ByteArray.empty bt310.1 0).size : Int) = (mn x7 20) then ((words_May.f k (rdOf ByteArray.empty bt310.1 0)).bind fun t319 => (if t319 = true then ((words_May.f k (strOfNums x8)).bind fun t320 => (if x6 = x0 then (if (t320 == (decide (x7 ≤ 20))) = true then ((columbariumlaw16_great.f k (strOfNums (([x6] : List Int)))).bind fun t324 => (if 0 < (t324.size : Int) then ((words_Sign.f k (bt t324 0)).bind fun t325 => (some (t325 == x6))) else (none))) else (none)) else (if (t320 == false) = true then ((columbariumlaw16_great.f k (strOfNums (([x6] : List Int)))).bind fun t329 => (if 0 < (t329.size : Int) then ((words_Sign.f k (bt t329 0)).bind fun t330 => (some (t330 == x6))) else (none))) else (none)))) else (none))) else (none)) else (none)) else (none)) else (none))) else (none)))) else (none)))
def columbariumlaw16_WordsSigns.f (k : Nat) (a0 : Int) (a1 : Int) : Option (Bool) := (columbariumlaw16_awake.f k).bind fun t304 => ((words_Sign.f k a0).bind fun t305 => ((columbariumlaw16_pick.f a1 30).bind fun t306 => (columbariumlaw16_WordsSigns.l0 k a0 t304 t305 t306 ([] : List Int) 0)))
theorem columbariumlaw16_WordsSigns.mono_l : ∀ k, (∀ y0 y1 y2 y3 y4 y5, LeO (columbariumlaw16_WordsSigns.l0 k y0 y1 y2 y3 y4 y5) (columbariumlaw16_WordsSigns.l0 (k + 1) y0 y1 y2 y3 y4 y5))
  | 0 => fun _ _ _ _ _ _ r h => by simp [columbariumlaw16_WordsSigns.l0] at h
  | k + 1 => by
    have ih0 := columbariumlaw16_WordsSigns.mono_l k
    · intro y0 y1 y2 y3 y4 y5
      unfold columbariumlaw16_WordsSigns.l0
      repeat' first
      | (with_reducible exact ih0 _ _ _ _ _ _)
      | (with_reducible exact columbariumlaw16_awake.mono _)
      | (with_reducible exact columbariumlaw16_great.mono _ _)
      | (with_reducible exact words_May.mono _ _)
      | (with_reducible exact words_Sign.mono _ _)
      | (with_reducible exact LeO.refl _)
      | (with_reducible exact LeO.none _)
      | (with_reducible refine LeO.ite ?_ ?_)
      | (with_reducible refine LeO.bind ?_ (fun _ => ?_))
      | exact ih0 _ _ _ _ _ _
      | exact columbariumlaw16_awake.mono _
      | exact columbariumlaw16_great.mono _ _
      | exact words_May.mono _ _
      | exact words_Sign.mono _ _
      | exact LeO.none _
      | refine LeO.ite ?_ ?_
      | refine LeO.bind ?_ (fun _ => ?_)
theorem columbariumlaw16_WordsSigns.mono : ∀ a0 a1 k, LeO (columbariumlaw16_WordsSigns.f k a0 a1) (columbariumlaw16_WordsSigns.f (k + 1) a0 a1) := by
  intro a0 a1 k
  have ih0 := columbariumlaw16_WordsSigns.mono_l k
  unfold columbariumlaw16_WordsSigns.f
  repeat' first
      | (with_reducible exact ih0 _ _ _ _ _ _)
      | (with_reducible exact columbariumlaw16_awake.mono _)
      | (with_reducible exact columbariumlaw16_great.mono _ _)
      | (with_reducible exact words_May.mono _ _)
      | (with_reducible exact words_Sign.mono _ _)
      | (with_reducible exact LeO.refl _)
      | (with_reducible exact LeO.none _)
      | (with_reducible refine LeO.ite ?_ ?_)
      | (with_reducible refine LeO.bind ?_ (fun _ => ?_))
      | exact ih0 _ _ _ _ _ _
      | exact columbariumlaw16_awake.mono _
      | exact columbariumlaw16_great.mono _ _
      | exact words_May.mono _ _
      | exact words_Sign.mono _ _
      | exact LeO.none _
      | refine LeO.ite ?_ ?_
      | refine LeO.bind ?_ (fun _ => ?_)
set_option maxHeartbeats 8000000 in
set_option maxRecDepth 100000 in
theorem columbariumlaw16_WordsSigns.calls (k : Nat) (a0 : Int) (a1 : Int) (r : Bool) (w : World) (h : columbariumlaw16_WordsSigns.f k a0 a1 = some r) :
    Calls Try.prog 6 #[.int .u8 a0, .int .i64 a1] w fun e w' => e = .returned (.bool r) ∧ Below w.heap.size w w' := by
  have HB := Aside0.mk (Below.refl w.heap.size w)
  have H : ((columbariumlaw16_awake.f k).bind fun t304 => ((words_Sign.f k a0).bind fun t305 => ((columbariumlaw16_pick.f a1 30).bind fun t306 => (columbariumlaw16_WordsSigns.l0 k a0 t304 t305 t306 ([] : List Int) 0)))) = some r := h
  clear h
  replace H := Option.bind_eq_some_iff.mp H
  obtain ⟨t304, A30, H⟩ := H
  replace H : ((words_Sign.f k a0).bind fun t305 => ((columbariumlaw16_pick.f a1 30).bind fun t306 => (columbariumlaw16_WordsSigns.l0 k a0 t304 t305 t306 ([] : List Int) 0))) = some r := H
  have A3 := Aside0.mk A30
  clear A30
  replace H := Option.bind_eq_some_iff.mp H
  obtain ⟨t305, A40, H⟩ := H
  replace H : ((columbariumlaw16_pick.f a1 30).bind fun t306 => (columbariumlaw16_WordsSigns.l0 k a0 t304 t305 t306 ([] : List Int) 0)) = some r := H
  have A4 := Aside0.mk A40
  clear A40
  replace H := Option.bind_eq_some_iff.mp H
  obtain ⟨t306, A50, H⟩ := H
  replace H : (columbariumlaw16_WordsSigns.l0 k a0 t304 t305 t306 ([] : List Int) 0) = some r := H
  have A5 := Aside0.mk A50
  clear A50
  have H' := Aside0.mk H
  clear H
  go_enter Try.func6, Try.ntmps6
  go_wp2_with (first | ((with_reducible refine gate_callee (f := 8) rfl ?_); refine goesL_ (some 12) rfl rfl Try.func8 (by kernel_rfl) rfl #[] rfl (by (try simp only [List.map_toArray, List.map_cons, List.map_nil]); first | done | rfl | (simp only [List.length_drop, List.length_take]; rfl)) ?_; (with_reducible refine (columbariumlaw16_awake.calls k  t304 _ A3.out).mono ?_); rintro e w6 ⟨rfl, hb⟩; (try clear A3); refine ⟨_, rfl, ?_⟩; have n0_ := Aside0.mk (below_step (by repeat (first | (with_reducible first | exact HB.out | apply below_alloc | apply pw_below_drewN | apply below_drew1) | exact HB.out)) hb); clear HB; have HB := n0_; clear n0_; (try clear hb); (try clear hb2); (try clear hk); (try clear hi)) | ((with_reducible refine gate_callee (f := 19) rfl ?_); refine goesL_ (some 14) rfl rfl Try.func19 (by kernel_rfl) rfl #[.int .u8 a0] rfl (by (try simp only [List.map_toArray, List.map_cons, List.map_nil]); first | done | rfl | (simp only [List.length_drop, List.length_take]; rfl)) ?_; (with_reducible refine (words_Sign.calls k a0 t305 _ A4.out).mono ?_); rintro e w' ⟨rfl, ⟨nd, rfl⟩⟩; (try clear A4); refine ⟨_, rfl, ?_⟩) | ((with_reducible refine gate_callee (f := 18) rfl ?_); refine goesL_ (some 16) rfl rfl Try.func18 (by kernel_rfl) rfl #[.int .i64 a1, .int .i64 30] rfl (by (try simp only [List.map_toArray, List.map_cons, List.map_nil]); first | done | rfl | (simp only [List.length_drop, List.length_take]; rfl)) ?_; (with_reducible refine (columbariumlaw16_pick.calls a1 30 t306 _ A5.out).mono ?_); rintro e w' ⟨rfl, ⟨nd, rfl⟩⟩; (try clear A5); refine ⟨_, rfl, ?_⟩))
  go_loopg [8, 9] k (fun kq v8 v9 w' => ∃ (x8_1 : List Int) (x9_1 : Int), v9 = .int .i64 x9_1 ∧ Aside0 (columbariumlaw16_WordsSigns.l0 kq a0 t304 t305 t306 x8_1 x9_1 = some r) ∧ Aside0 (kq ≤ k) ∧ Aside0 (Kd.R (Kd.int .u8) 5 w' w.heap.size (fun _ => True) v8 x8_1) ∧ Aside0 (Below w.heap.size w w'))
  case atStart => exact ⟨(([] : List Int)), (0), (by first | rfl | (simp; done) | (simp [*]; done)), H', ⟨Nat.le_refl _⟩, ⟨by first | exact Kd.R_nil _ _ _ _ _ | exact Kd.N_nil _ _ _ _ _ | exact Kd.V_nil _ _ _ _ _ | exact Kd.Q_nil _ _ _ _ _ | exact Kd.S_nil _ _ _ _ _⟩, ⟨by repeat (first | (with_reducible first | exact HB.out | apply below_alloc | apply pw_below_drewN | apply below_drew1) | exact HB.out)⟩⟩
  case round =>
    clear H'
    try clear c1
    try clear p2
    try clear c6
    obtain ⟨x8_1, x9_1, rfl, HA, HK1, HO_8, HB⟩ := hrel
    cases gk with
    | zero => exact absurd HA.out (by simp [columbariumlaw16_WordsSigns.l0])
    | succ k1 =>
      have H := HA.out
      clear HA
      simp only [columbariumlaw16_WordsSigns.l0] at H
      by_cases c7 : x9_1 < t306
      · rw [if_pos c7] at H
        have c7b0 : decide (x9_1 < t306) = true := decide_eq_true c7
        clear c7
        by_cases c8 : x8_1.length < 140737488355328
        · rw [if_pos c8] at H
          have LMc8 := Aside0.mk c8
          clear c8
          obtain ⟨y307, hy307⟩ : ∃ y_ : List Int, y_ = (x8_1 ++ [a0]) := ⟨_, rfl⟩
          replace H : (columbariumlaw16_WordsSigns.l0 k1 a0 t304 t305 t306 y307 (wrap64 (x9_1 + 1))) = some r := by first | (rw [hy307]; with_reducible exact H) | (have H2_ := (Option.bind_some _ _).symm.trans H; rw [hy307]; with_reducible exact H2_) | (have H2_ := (Option.bind_some _ _).symm.trans H; with_reducible exact H2_) | with_reducible exact H | (rw [hy307]; exact H) | exact H
          have Ny307 := Aside0.mk hy307
          clear hy307
          have H' := Aside0.mk H
          clear H
          go_wp2_with (first | ((with_reducible refine gate_builtin (b := .append) (xs := #[.tmp 22, .tmp 24]) rfl ?_); (try (refine gate_guard (by rfl) ?_; dsimp only)); at_builtin; refine Kd.R_append (Kd.int .u8) (w0 := w) w.heap.size rfl (.tmp 22) (.tmp 24) 33 5 (.int .u8 0) 1 rfl Try.underlying33 info5 rfl (by decide) (by omega) u8 x8_1 a0 [.int .u8 a0] (fun _ => True) (fun _ => False) rfl rfl ?aP (fun _ hk => hk.elim) ?aF ?aO ?aB ?aS ?aL ?_; (case aP => exact rfl); (case aB => exact (by repeat (first | (with_reducible first | exact HB.out | apply below_alloc | apply pw_below_drewN | apply below_drew1) | exact HB.out))); (case aF => exact (fun _ _ => trivial)); (case aO => exact (by (with_reducible repeat (first | apply Kd.R_alloc | apply Kd.R_drewN | apply Kd.R_drew)); exact HO_8.out)); (case aS => exact (below_size (by repeat (first | (with_reducible first | exact HB.out | apply below_alloc | apply pw_below_drewN | apply below_drew1) | exact HB.out)))); (case aL => have := LMc8.out; omega); intro v308 w9 ho hb hg hat; rw [← Ny307.out] at ho; have n0_ := Aside0.mk (hb); have n1_ := Aside0.mk (ho); clear HB; clear HO_8; have HB := n0_; have HO309 := n1_; clear n0_ n1_; clear ho hb hg hat))
          go_roundg k1
          case measure => have := HK1.out; omega
          case rel => exact ⟨(y307), (wrap64 (x9_1 + 1)), (by first | rfl | (simp; done) | (simp [*]; done)), H', ⟨by have := HK1.out; omega⟩, ⟨by (with_reducible repeat (first | apply Kd.R_alloc | apply Kd.R_drewN | apply Kd.R_drew)); exact HO309.out⟩, ⟨by repeat (first | (with_reducible first | exact HB.out | apply below_alloc | apply pw_below_drewN | apply below_drew1) | exact HB.out)⟩⟩
        · rw [if_neg c8] at H
          exact absurd H (by simp)
      · rw [if_neg c7] at H
        have c7b0 : decide (x9_1 < t306) = false := decide_eq_false c7
        clear c7
        replace H := Option.bind_eq_some_iff.mp H
        obtain ⟨⟨t310, t313⟩, A100, H⟩ := H
        replace H : (if t313 = 0 then (if t305 = 0 then (if t304 = true then (if (t310.length : Int) = 0 then ((words_May.f k1 (strOfNums x8_1)).bind fun t314 => (some (!t314))) else (none)) else (none)) else ((words_Sign.f k1 t305).bind fun t315 => (if t315 = t305 then (if t306 < 2 then (if t304 = true then (if (t310.length : Int) = 0 then ((words_May.f k1 (strOfNums x8_1)).bind fun t316 => (some (!t316))) else (none)) else (none)) else (if t304 = true then (if (t310.length : Int) = 1 then (if 0 < (t310.length : Int) then (if ((rdOf ByteArray.empty t310 0).size : Int) = (mn t306 20) then ((words_May.f k1 (rdOf ByteArray.empty t310 0)).bind fun t319 => (if t319 = true then ((words_May.f k1 (strOfNums x8_1)).bind fun t320 => (if t305 = a0 then (if (t320 == (decide (t306 ≤ 20))) = true then ((columbariumlaw16_great.f k1 (strOfNums (([t305] : List Int)))).bind fun t324 => (if 0 < (t324.size : Int) then ((words_Sign.f k1 (bt t324 0)).bind fun t325 => (some (t325 == t305))) else (none))) else (none)) else (if (t320 == false) = true then ((columbariumlaw16_great.f k1 (strOfNums (([t305] : List Int)))).bind fun t329 => (if 0 < (t329.size : Int) then ((words_Sign.f k1 (bt t329 0)).bind fun t330 => (some (t330 == t305))) else (none))) else (none)))) else (none))) else (none)) else (none)) else (none)) else (none))) else (none)))) else (none)) = some r := H
        have A10 := Aside0.mk A100
        clear A100
        by_cases c11 : t313 = 0
        · rw [if_pos c11] at H
          have c11b0 : (t313 == 0) = true := beq_iff_eq.mpr c11
          have c11b1 : (t313 != 0) = false := bne_eq_false_iff_eq.mpr c11
          clear c11
          by_cases c12 : t305 = 0
          · rw [if_pos c12] at H
            have c12b0 : (t305 == 0) = true := beq_iff_eq.mpr c12
            have c12b1 : (t305 != 0) = false := bne_eq_false_iff_eq.mpr c12
            clear c12
            by_cases c13 : t304 = true
            · subst c13
              have H1 : (if (t310.length : Int) = 0 then ((words_May.f k1 (strOfNums x8_1)).bind fun t314 => (some (!t314))) else (none)) = some r := by rw [if_pos rfl] at H; exact H
              clear H
              have H := H1
              clear H1
              by_cases c14 : (t310.length : Int) = 0
              · rw [if_pos c14] at H
                have c14b0 : ((t310.length : Int) == 0) = true := beq_iff_eq.mpr c14
                have c14b1 : ((t310.length : Int) != 0) = false := bne_eq_false_iff_eq.mpr c14
                clear c14
                replace H := Option.bind_eq_some_iff.mp H
                obtain ⟨t314, A150, H⟩ := H
                replace H : (some (!t314)) = some r := H
                have A15 := Aside0.mk A150
                clear A150
                obtain rfl := Option.some.inj H
                have hcv16 := own_string (P := Try.prog) Try.underlying33 Try.underlying5 Try.underlying9 (Kd.own_of_R HO_8.out)
                go_wp2_with (first | ((with_reducible refine gate_callee (f := 11) rfl ?_); refine goesL_ (some 29) rfl rfl Try.func11 (by kernel_rfl) rfl #[.string (strOfNums x8_1)] rfl (by (try simp only [List.map_toArray, List.map_cons, List.map_nil]); first | done | rfl | (simp only [List.length_drop, List.length_take]; rfl)) ?_; (with_reducible refine (words_Split.calls (strOfNums x8_1) t310 t313 _ A10.out).mono ?_); rintro e w17 ⟨v311, rfl, ho0, hb⟩; (try clear A10); refine ⟨_, rfl, ?_⟩; have n0_ := Aside0.mk (Kd.R_below (by (with_reducible repeat (first | apply Kd.R_alloc | apply Kd.R_drewN | apply Kd.R_drew)); exact HO_8.out) hb); have n1_ := Aside0.mk (Kd.V_lower (Kd.V_mono (ok' := fun k_ => some k_ ≠ (u8 : Value).ownBlock) ho0 (fun k_ hk_ => (Kd.fresh' (Kd.R_lt (by (with_reducible repeat (first | apply Kd.R_alloc | apply Kd.R_drewN | apply Kd.R_drew)); exact HO_8.out)) k_ hk_))) (below_size (by repeat (first | (with_reducible first | exact HB.out | apply below_alloc | apply pw_below_drewN | apply below_drew1) | exact HB.out)))); have n2_ := Aside0.mk (below_step (by repeat (first | (with_reducible first | exact HB.out | apply below_alloc | apply pw_below_drewN | apply below_drew1) | exact HB.out)) hb); clear HO_8; clear HB; have HO_8 := n0_; have HO312 := n1_; have HB := n2_; clear n0_ n1_ n2_; (try clear hb); (try clear hb2); (try clear hk); (try clear hi); (try clear ho0); obtain ⟨Ao18, co18, eo18⟩ := Kd.V_slice HO312.out; subst eo18; have hcv19 := own_string (P := Try.prog) Try.underlying33 Try.underlying5 Try.underlying9 (Kd.own_of_R HO_8.out)) | (go_at_call 16; (with_reducible refine (words_May.calls k1 (strOfNums x8_1) t314 _ A15.out).mono ?_); rintro e w20 ⟨rfl, hb⟩; (try clear A15); have n0_ := Aside0.mk (Kd.R_below (by (with_reducible repeat (first | apply Kd.R_alloc | apply Kd.R_drewN | apply Kd.R_drew)); exact HO_8.out) hb); have n1_ := Aside0.mk (Kd.V_below (by (with_reducible repeat (first | apply Kd.V_alloc | apply Kd.V_drewN | apply Kd.V_drew)); exact HO312.out) hb); have n2_ := Aside0.mk (below_step (by repeat (first | (with_reducible first | exact HB.out | apply below_alloc | apply pw_below_drewN | apply below_drew1) | exact HB.out)) hb); clear HO_8; clear HO312; clear HB; have HO_8 := n0_; have HO312 := n1_; have HB := n2_; clear n0_ n1_ n2_; (try clear hb); (try clear hb2); (try clear hk); (try clear hi)))
                go_ret
                exact ⟨by first | rfl | (simp [errW_none, errW_some] <;> rfl) | (simp [*, errW_none, errW_some] <;> rfl), by repeat (first | (with_reducible first | exact HB.out | apply below_alloc | apply pw_below_drewN | apply below_drew1) | exact HB.out)⟩
              · rw [if_neg c14] at H
                exact absurd H (by simp)
            · replace c13 := Bool.eq_false_iff.mpr c13
              subst c13
              have H1 : (none) = some r := by rw [if_neg (show ¬ (false = true) by decide)] at H; exact H
              clear H
              have H := H1
              clear H1
              exact absurd H (by simp)
          · rw [if_neg c12] at H
            have c12b0 : (t305 == 0) = false := beq_eq_false_iff_ne.mpr c12
            have c12b1 : (t305 != 0) = true := bne_iff_ne.mpr c12
            replace H := Option.bind_eq_some_iff.mp H
            obtain ⟨t315, A210, H⟩ := H
            replace H : (if t315 = t305 then (if t306 < 2 then (if t304 = true then (if (t310.length : Int) = 0 then ((words_May.f k1 (strOfNums x8_1)).bind fun t316 => (some (!t316))) else (none)) else (none)) else (if t304 = true then (if (t310.length : Int) = 1 then (if 0 < (t310.length : Int) then (if ((rdOf ByteArray.empty t310 0).size : Int) = (mn t306 20) then ((words_May.f k1 (rdOf ByteArray.empty t310 0)).bind fun t319 => (if t319 = true then ((words_May.f k1 (strOfNums x8_1)).bind fun t320 => (if t305 = a0 then (if (t320 == (decide (t306 ≤ 20))) = true then ((columbariumlaw16_great.f k1 (strOfNums (([t305] : List Int)))).bind fun t324 => (if 0 < (t324.size : Int) then ((words_Sign.f k1 (bt t324 0)).bind fun t325 => (some (t325 == t305))) else (none))) else (none)) else (if (t320 == false) = true then ((columbariumlaw16_great.f k1 (strOfNums (([t305] : List Int)))).bind fun t329 => (if 0 < (t329.size : Int) then ((words_Sign.f k1 (bt t329 0)).bind fun t330 => (some (t330 == t305))) else (none))) else (none)))) else (none))) else (none)) else (none)) else (none)) else (none))) else (none)) = some r := H
            have A21 := Aside0.mk A210
            clear A210
            by_cases c22 : t315 = t305
            · rw [if_pos c22] at H
              have c22b0 : (t315 == t305) = true := beq_iff_eq.mpr c22
              have c22b1 : (t315 != t305) = false := bne_eq_false_iff_eq.mpr c22
              clear c22
              by_cases c23 : t306 < 2
              · rw [if_pos c23] at H
                have c23b0 : decide (t306 < 2) = true := decide_eq_true c23
                clear c23
                by_cases c24 : t304 = true
                · subst c24
                  have H1 : (if (t310.length : Int) = 0 then ((words_May.f k1 (strOfNums x8_1)).bind fun t316 => (some (!t316))) else (none)) = some r := by rw [if_pos rfl] at H; exact H
                  clear H
                  have H := H1
                  clear H1
                  by_cases c25 : (t310.length : Int) = 0
                  · rw [if_pos c25] at H
                    have c25b0 : ((t310.length : Int) == 0) = true := beq_iff_eq.mpr c25
                    have c25b1 : ((t310.length : Int) != 0) = false := bne_eq_false_iff_eq.mpr c25
                    clear c25
                    replace H := Option.bind_eq_some_iff.mp H
                    obtain ⟨t316, A260, H⟩ := H
                    replace H : (some (!t316)) = some r := H
                    have A26 := Aside0.mk A260
                    clear A260
                    obtain rfl := Option.some.inj H
                    have hcv27 := own_string (P := Try.prog) Try.underlying33 Try.underlying5 Try.underlying9 (Kd.own_of_R HO_8.out)
                    go_wp2_with (first | ((with_reducible refine gate_callee (f := 11) rfl ?_); refine goesL_ (some 29) rfl rfl Try.func11 (by kernel_rfl) rfl #[.string (strOfNums x8_1)] rfl (by (try simp only [List.map_toArray, List.map_cons, List.map_nil]); first | done | rfl | (simp only [List.length_drop, List.length_take]; rfl)) ?_; (with_reducible refine (words_Split.calls (strOfNums x8_1) t310 t313 _ A10.out).mono ?_); rintro e w28 ⟨v311, rfl, ho0, hb⟩; (try clear A10); refine ⟨_, rfl, ?_⟩; have n0_ := Aside0.mk (Kd.R_below (by (with_reducible repeat (first | apply Kd.R_alloc | apply Kd.R_drewN | apply Kd.R_drew)); exact HO_8.out) hb); have n1_ := Aside0.mk (Kd.V_lower (Kd.V_mono (ok' := fun k_ => some k_ ≠ (u8 : Value).ownBlock) ho0 (fun k_ hk_ => (Kd.fresh' (Kd.R_lt (by (with_reducible repeat (first | apply Kd.R_alloc | apply Kd.R_drewN | apply Kd.R_drew)); exact HO_8.out)) k_ hk_))) (below_size (by repeat (first | (with_reducible first | exact HB.out | apply below_alloc | apply pw_below_drewN | apply below_drew1) | exact HB.out)))); have n2_ := Aside0.mk (below_step (by repeat (first | (with_reducible first | exact HB.out | apply below_alloc | apply pw_below_drewN | apply below_drew1) | exact HB.out)) hb); clear HO_8; clear HB; have HO_8 := n0_; have HO312 := n1_; have HB := n2_; clear n0_ n1_ n2_; (try clear hb); (try clear hb2); (try clear hk); (try clear hi); (try clear ho0)) | (go_at_call 19; (with_reducible refine (words_Sign.calls k1 t305 t315 _ A21.out).mono ?_); rintro e w' ⟨rfl, ⟨nd, rfl⟩⟩; (try clear A21); obtain ⟨Ao29, co29, eo29⟩ := Kd.V_slice HO312.out; subst eo29; have hcv30 := own_string (P := Try.prog) Try.underlying33 Try.underlying5 Try.underlying9 (Kd.own_of_R (Kd.R_drewN HO_8.out nd))) | (go_at_call 16; (with_reducible refine (words_May.calls k1 (strOfNums x8_1) t316 _ A26.out).mono ?_); rintro e w31 ⟨rfl, hb⟩; (try clear A26); have n0_ := Aside0.mk (Kd.R_below (by (with_reducible repeat (first | apply Kd.R_alloc | apply Kd.R_drewN | apply Kd.R_drew)); exact HO_8.out) hb); have n1_ := Aside0.mk (Kd.V_below (by (with_reducible repeat (first | apply Kd.V_alloc | apply Kd.V_drewN | apply Kd.V_drew)); exact HO312.out) hb); have n2_ := Aside0.mk (below_step (by repeat (first | (with_reducible first | exact HB.out | apply below_alloc | apply pw_below_drewN | apply below_drew1) | exact HB.out)) hb); clear HO_8; clear HO312; clear HB; have HO_8 := n0_; have HO312 := n1_; have HB := n2_; clear n0_ n1_ n2_; (try clear hb); (try clear hb2); (try clear hk); (try clear hi)))
                    go_ret
                    exact ⟨by first | rfl | (simp [errW_none, errW_some] <;> rfl) | (simp [*, errW_none, errW_some] <;> rfl), by repeat (first | (with_reducible first | exact HB.out | apply below_alloc | apply pw_below_drewN | apply below_drew1) | exact HB.out)⟩
                  · rw [if_neg c25] at H
                    exact absurd H (by simp)
                · replace c24 := Bool.eq_false_iff.mpr c24
                  subst c24
                  have H1 : (none) = some r := by rw [if_neg (show ¬ (false = true) by decide)] at H; exact H
                  clear H
                  have H := H1
                  clear H1
                  exact absurd H (by simp)
              · rw [if_neg c23] at H
                have c23b0 : decide (t306 < 2) = false := decide_eq_false c23
                clear c23
                by_cases c32 : t304 = true
                · subst c32
                  have H1 : (if (t310.length : Int) = 1 then (if 0 < (t310.length : Int) then (if ((rdOf ByteArray.empty t310 0).size : Int) = (mn t306 20) then ((words_May.f k1 (rdOf ByteArray.empty t310 0)).bind fun t319 => (if t319 = true then ((words_May.f k1 (strOfNums x8_1)).bind fun t320 => (if t305 = a0 then (if (t320 == (decide (t306 ≤ 20))) = true then ((columbariumlaw16_great.f k1 (strOfNums (([t305] : List Int)))).bind fun t324 => (if 0 < (t324.size : Int) then ((words_Sign.f k1 (bt t324 0)).bind fun t325 => (some (t325 == t305))) else (none))) else (none)) else (if (t320 == false) = true then ((columbariumlaw16_great.f k1 (strOfNums (([t305] : List Int)))).bind fun t329 => (if 0 < (t329.size : Int) then ((words_Sign.f k1 (bt t329 0)).bind fun t330 => (some (t330 == t305))) else (none))) else (none)))) else (none))) else (none)) else (none)) else (none)) = some r := by rw [if_pos rfl] at H; exact H
                  clear H
                  have H := H1
                  clear H1
                  by_cases c33 : (t310.length : Int) = 1
                  · rw [if_pos c33] at H
                    have c33b0 : ((t310.length : Int) == 1) = true := beq_iff_eq.mpr c33
                    have c33b1 : ((t310.length : Int) != 1) = false := bne_eq_false_iff_eq.mpr c33
                    clear c33
                    by_cases c34 : 0 < (t310.length : Int)
                    · rw [if_pos c34] at H
                      have c34b0 : decide (0 < (t310.length : Int)) = true := decide_eq_true c34
                      have c34b1 : decide (0 < t310.length) = true := decide_eq_true (by omega)
                      clear c34
                      obtain ⟨ji35, hji35⟩ : ∃ j_ : Int, (mn t306 20) = j_ := ⟨_, rfl⟩
                      replace H : (if ((rdOf ByteArray.empty t310 0).size : Int) = (ji35) then ((words_May.f k1 (rdOf ByteArray.empty t310 0)).bind fun t319 => (if t319 = true then ((words_May.f k1 (strOfNums x8_1)).bind fun t320 => (if t305 = a0 then (if (t320 == (decide (t306 ≤ 20))) = true then ((columbariumlaw16_great.f k1 (strOfNums (([t305] : List Int)))).bind fun t324 => (if 0 < (t324.size : Int) then ((words_Sign.f k1 (bt t324 0)).bind fun t325 => (some (t325 == t305))) else (none))) else (none)) else (if (t320 == false) = true then ((columbariumlaw16_great.f k1 (strOfNums (([t305] : List Int)))).bind fun t329 => (if 0 < (t329.size : Int) then ((words_Sign.f k1 (bt t329 0)).bind fun t330 => (some (t330 == t305))) else (none))) else (none)))) else (none))) else (none)) = some r := by first | (rw [hji35] at H; exact H) | (simp only [hji35] at H ⊢; exact H)
                      (try rw [hji35] at A10)
                      (try rw [hji35] at A21)
                      have hji35_ : (if 20 < t306 then 20 else t306) = ji35 := hji35
                      by_cases c36 : ((rdOf ByteArray.empty t310 0).size : Int) = (ji35)
                      · rw [if_pos c36] at H
                        have c36b0 : (((rdOf ByteArray.empty t310 0).size : Int) == (ji35)) = true := beq_iff_eq.mpr c36
                        have c36b1 : (((rdOf ByteArray.empty t310 0).size : Int) != (ji35)) = false := bne_eq_false_iff_eq.mpr c36
                        clear c36
                        replace H := Option.bind_eq_some_iff.mp H
                        obtain ⟨t319, A370, H⟩ := H
                        replace H : (if t319 = true then ((words_May.f k1 (strOfNums x8_1)).bind fun t320 => (if t305 = a0 then (if (t320 == (decide (t306 ≤ 20))) = true then ((columbariumlaw16_great.f k1 (strOfNums (([t305] : List Int)))).bind fun t324 => (if 0 < (t324.size : Int) then ((words_Sign.f k1 (bt t324 0)).bind fun t325 => (some (t325 == t305))) else (none))) else (none)) else (if (t320 == false) = true then ((columbariumlaw16_great.f k1 (strOfNums (([t305] : List Int)))).bind fun t329 => (if 0 < (t329.size : Int) then ((words_Sign.f k1 (bt t329 0)).bind fun t330 => (some (t330 == t305))) else (none))) else (none)))) else (none)) = some r := H
                        have A37 := Aside0.mk A370
                        clear A370
                        by_cases c38 : t319 = true
                        · subst c38
                          have H1 : ((words_May.f k1 (strOfNums x8_1)).bind fun t320 => (if t305 = a0 then (if (t320 == (decide (t306 ≤ 20))) = true then ((columbariumlaw16_great.f k1 (strOfNums (([t305] : List Int)))).bind fun t324 => (if 0 < (t324.size : Int) then ((words_Sign.f k1 (bt t324 0)).bind fun t325 => (some (t325 == t305))) else (none))) else (none)) else (if (t320 == false) = true then ((columbariumlaw16_great.f k1 (strOfNums (([t305] : List Int)))).bind fun t329 => (if 0 < (t329.size : Int) then ((words_Sign.f k1 (bt t329 0)).bind fun t330 => (some (t330 == t305))) else (none))) else (none)))) = some r := by rw [if_pos rfl] at H; exact H
                          clear H
                          have H := H1
                          clear H1
                          replace H := Option.bind_eq_some_iff.mp H
                          obtain ⟨t320, A390, H⟩ := H
                          replace H : (if t305 = a0 then (if (t320 == (decide (t306 ≤ 20))) = true then ((columbariumlaw16_great.f k1 (strOfNums (([t305] : List Int)))).bind fun t324 => (if 0 < (t324.size : Int) then ((words_Sign.f k1 (bt t324 0)).bind fun t325 => (some (t325 == t305))) else (none))) else (none)) else (if (t320 == false) = true then ((columbariumlaw16_great.f k1 (strOfNums (([t305] : List Int)))).bind fun t329 => (if 0 < (t329.size : Int) then ((words_Sign.f k1 (bt t329 0)).bind fun t330 => (some (t330 == t305))) else (none))) else (none))) = some r := H
                          have A39 := Aside0.mk A390
                          clear A390
                          by_cases c40 : t305 = a0
                          · rw [if_pos c40] at H
                            have c40b0 : (t305 == a0) = true := beq_iff_eq.mpr c40
                            have c40b1 : (t305 != a0) = false := bne_eq_false_iff_eq.mpr c40
                            clear c40
                            by_cases c41 : (t320 == (decide (t306 ≤ 20))) = true
                            · rw [if_pos c41] at H
                              have c41b0 : (t320 == (decide (t306 ≤ 20))) = true := c41
                              (try (have c41b1 : decide (t320 = (decide (t306 ≤ 20))) = true := by simpa using c41))
                              (try (have c41b2 : (t320 == (decide (t306 ≤ 20))) = true := by simpa using c41))
                              clear c41
                              obtain ⟨y321, hy321⟩ : ∃ y_ : List Int, y_ = (([t305] : List Int)) := ⟨_, rfl⟩
                              replace H : ((columbariumlaw16_great.f k1 (strOfNums y321)).bind fun t324 => (if 0 < (t324.size : Int) then ((words_Sign.f k1 (bt t324 0)).bind fun t325 => (some (t325 == t305))) else (none))) = some r := by first | (rw [hy321]; with_reducible exact H) | (have H2_ := (Option.bind_some _ _).symm.trans H; rw [hy321]; with_reducible exact H2_) | (have H2_ := (Option.bind_some _ _).symm.trans H; with_reducible exact H2_) | with_reducible exact H | (rw [hy321]; exact H) | exact H
                              have Ny321 := Aside0.mk hy321
                              clear hy321
                              replace H := Option.bind_eq_some_iff.mp H
                              obtain ⟨t324, A420, H⟩ := H
                              replace H : (if 0 < (t324.size : Int) then ((words_Sign.f k1 (bt t324 0)).bind fun t325 => (some (t325 == t305))) else (none)) = some r := H
                              have A42 := Aside0.mk A420
                              clear A420
                              by_cases c43 : 0 < (t324.size : Int)
                              · rw [if_pos c43] at H
                                have c43b0 : decide (0 < (t324.size : Int)) = true := decide_eq_true c43
                                have c43b1 : decide (0 < t324.size) = true := decide_eq_true (by omega)
                                clear c43
                                replace H := Option.bind_eq_some_iff.mp H
                                obtain ⟨t325, A450, H⟩ := H
                                replace H : (some (t325 == t305)) = some r := H
                                have A45 := Aside0.mk A450
                                clear A450
                                obtain rfl := Option.some.inj H
                                have hcv46 := own_string (P := Try.prog) Try.underlying33 Try.underlying5 Try.underlying9 (Kd.own_of_R HO_8.out)
                                go_wp2_with (first | ((with_reducible refine gate_callee (f := 11) rfl ?_); refine goesL_ (some 29) rfl rfl Try.func11 (by kernel_rfl) rfl #[.string (strOfNums x8_1)] rfl (by (try simp only [List.map_toArray, List.map_cons, List.map_nil]); first | done | rfl | (simp only [List.length_drop, List.length_take]; rfl)) ?_; (with_reducible refine (words_Split.calls (strOfNums x8_1) t310 t313 _ A10.out).mono ?_); rintro e w47 ⟨v311, rfl, ho0, hb⟩; (try clear A10); refine ⟨_, rfl, ?_⟩; have n0_ := Aside0.mk (Kd.R_below (by (with_reducible repeat (first | apply Kd.R_alloc | apply Kd.R_drewN | apply Kd.R_drew)); exact HO_8.out) hb); have n1_ := Aside0.mk (Kd.V_lower (Kd.V_mono (ok' := fun k_ => some k_ ≠ (u8 : Value).ownBlock) ho0 (fun k_ hk_ => (Kd.fresh' (Kd.R_lt (by (with_reducible repeat (first | apply Kd.R_alloc | apply Kd.R_drewN | apply Kd.R_drew)); exact HO_8.out)) k_ hk_))) (below_size (by repeat (first | (with_reducible first | exact HB.out | apply below_alloc | apply pw_below_drewN | apply below_drew1) | exact HB.out)))); have n2_ := Aside0.mk (below_step (by repeat (first | (with_reducible first | exact HB.out | apply below_alloc | apply pw_below_drewN | apply below_drew1) | exact HB.out)) hb); clear HO_8; clear HB; have HO_8 := n0_; have HO312 := n1_; have HB := n2_; clear n0_ n1_ n2_; (try clear hb); (try clear hb2); (try clear hk); (try clear hi); (try clear ho0)) | (go_at_call 19; (with_reducible refine (words_Sign.calls k1 t305 t315 _ A21.out).mono ?_); rintro e w' ⟨rfl, ⟨nd, rfl⟩⟩; (try clear A21); obtain ⟨Ao48, co48, eo48⟩ := Kd.V_slice HO312.out; subst eo48; have p317 : 0 ≤ (0 : Int) := (by omega); have q317 : 0 < (t310.length : Int) := of_decide_eq_true (by first | (with_reducible assumption) | assumption); obtain ⟨ad317, e317, hx317_0⟩ := Kd.at_string (Kd.V_reads' HO312.out).2.2 0 p317 q317; cases e317; have qi317 : (0 < t310.length) = True := eq_true (by omega); (try rw [show ((0 : Int)).toNat = 0 from rfl] at hx317_0); (try rw [Addr.add_zero'] at hx317_0); replace p317 := eq_true p317; replace q317 := eq_true q317; have p318 : 0 ≤ (0 : Int) := (by omega); have q318 : 0 < (t310.length : Int) := of_decide_eq_true (by first | (with_reducible assumption) | assumption); obtain ⟨ad318, e318, hx318_0⟩ := Kd.at_string (Kd.V_reads' HO312.out).2.2 0 p318 q318; obtain rfl : ad317 = ad318 := (by injection e318); have qi318 : (0 < t310.length) = True := eq_true (by omega); (try rw [show ((0 : Int)).toNat = 0 from rfl] at hx318_0); (try rw [Addr.add_zero'] at hx318_0); replace p318 := eq_true p318; replace q318 := eq_true q318) | (go_at_call 16; (with_reducible refine (words_May.calls k1 (rdOf ByteArray.empty t310 0) true _ A37.out).mono ?_); rintro e w49 ⟨rfl, hb⟩; (try clear A37); have n0_ := Aside0.mk (Kd.R_below (by (with_reducible repeat (first | apply Kd.R_alloc | apply Kd.R_drewN | apply Kd.R_drew)); exact HO_8.out) hb); have n1_ := Aside0.mk (Kd.V_below (by (with_reducible repeat (first | apply Kd.V_alloc | apply Kd.V_drewN | apply Kd.V_drew)); exact HO312.out) hb); have n2_ := Aside0.mk (below_step (by repeat (first | (with_reducible first | exact HB.out | apply below_alloc | apply pw_below_drewN | apply below_drew1) | exact HB.out)) hb); clear HO_8; clear HO312; clear HB; have HO_8 := n0_; have HO312 := n1_; have HB := n2_; clear n0_ n1_ n2_; (try clear hb); (try clear hb2); (try clear hk); (try clear hi); have hcv50 := own_string (P := Try.prog) Try.underlying33 Try.underlying5 Try.underlying9 (Kd.own_of_R HO_8.out)) | (go_at_call 16; (with_reducible refine (words_May.calls k1 (strOfNums x8_1) t320 _ A39.out).mono ?_); rintro e w51 ⟨rfl, hb⟩; (try clear A39); have n0_ := Aside0.mk (Kd.R_below (by (with_reducible repeat (first | apply Kd.R_alloc | apply Kd.R_drewN | apply Kd.R_drew)); exact HO_8.out) hb); have n1_ := Aside0.mk (Kd.V_below (by (with_reducible repeat (first | apply Kd.V_alloc | apply Kd.V_drewN | apply Kd.V_drew)); exact HO312.out) hb); have n2_ := Aside0.mk (below_step (by repeat (first | (with_reducible first | exact HB.out | apply below_alloc | apply pw_below_drewN | apply below_drew1) | exact HB.out)) hb); clear HO_8; clear HO312; clear HB; have HO_8 := n0_; have HO312 := n1_; have HB := n2_; clear n0_ n1_ n2_; (try clear hb); (try clear hb2); (try clear hk); (try clear hi)) | ((with_reducible refine gate_dst (N := 98) rfl ?_); (try (refine gate_guard (by rfl) ?_; dsimp only)); refine Kd.R_lit (Kd.int .u8) _ 5 ?hg (N := 98) ?hd (xs := ([t305] : List Int)) (inner := [.int .u8 t305]) (ok := fun _ => True) (okp := fun _ => True) ?hr ?hp (fun _ hk => hk) trivial (Below.refl _ _) (Nat.le_refl _) (by simp) ?_; (case hd => rfl); (case hg => rfl); (case hr => first | (go_simp; done) | (go_simp; rfl)); (case hp => exact (Reps.one (show Kd.M (Kd.int .u8) _ _ _ t305 [.int .u8 t305] from rfl) (Reps.none _ _))); intro v322 w52 ho53 hb hg_ hnew_; clear hg_ hnew_; (first | rw [← Ny321.out] at ho53 | (simp only [Int.reduceToNat] at ho53; rw [← Ny321.out] at ho53)); have n0_ := Aside0.mk (Kd.R_elder' (by (with_reducible repeat (first | apply Kd.R_alloc | apply Kd.R_drewN | apply Kd.R_drew)); exact HO_8.out) (Kd.R_base ho53) hb); have n1_ := Aside0.mk (Kd.V_elder' (by (with_reducible repeat (first | apply Kd.V_alloc | apply Kd.V_drewN | apply Kd.V_drew)); exact HO312.out) (Kd.R_base ho53) hb); have n2_ := Aside0.mk (Kd.R_lower (Kd.R_new' ho53 (Kd.R_lt (by (with_reducible repeat (first | apply Kd.R_alloc | apply Kd.R_drewN | apply Kd.R_drew)); exact HO_8.out))) (below_size (by repeat (first | (with_reducible first | exact HB.out | apply below_alloc | apply pw_below_drewN | apply below_drew1) | exact HB.out)))); have n3_ := Aside0.mk (below_step (by repeat (first | (with_reducible first | exact HB.out | apply below_alloc | apply pw_below_drewN | apply below_drew1) | exact HB.out)) hb); clear HO_8; clear HO312; clear HB; have HO_8 := n0_; have HO312 := n1_; have HO323 := n2_; have HB := n3_; clear n0_ n1_ n2_ n3_; clear hb ho53; have hcv54 := own_string (P := Try.prog) Try.underlying33 Try.underlying5 Try.underlying9 (Kd.own_of_R HO323.out)) | (go_at_call 10; (with_reducible refine (columbariumlaw16_great.calls k1 (strOfNums y321) t324 _ A42.out).mono ?_); rintro e w55 ⟨rfl, hb⟩; (try clear A42); have n0_ := Aside0.mk (Kd.R_below (by (with_reducible repeat (first | apply Kd.R_alloc | apply Kd.R_drewN | apply Kd.R_drew)); exact HO_8.out) hb); have n1_ := Aside0.mk (Kd.V_below (by (with_reducible repeat (first | apply Kd.V_alloc | apply Kd.V_drewN | apply Kd.V_drew)); exact HO312.out) hb); have n2_ := Aside0.mk (Kd.R_below (by (with_reducible repeat (first | apply Kd.R_alloc | apply Kd.R_drewN | apply Kd.R_drew)); exact HO323.out) hb); have n3_ := Aside0.mk (below_step (by repeat (first | (with_reducible first | exact HB.out | apply below_alloc | apply pw_below_drewN | apply below_drew1) | exact HB.out)) hb); clear HO_8; clear HO312; clear HO323; clear HB; have HO_8 := n0_; have HO312 := n1_; have HO323 := n2_; have HB := n3_; clear n0_ n1_ n2_ n3_; (try clear hb); (try clear hb2); (try clear hk); (try clear hi); have p44 : 0 ≤ (0 : Int) := (by omega); have q44 : 0 < t324.size := (by have : (0 : Int) < (t324.size : Int) := of_decide_eq_true (by first | (with_reducible assumption) | assumption); omega); have hx44 : ∀ h : 0 < t324.size, ((t324[0]'h).toNat : Int) = bt t324 0 := bt_at t324 0; clear p44; have qi44 : (0 < (t324.size : Int)) = True := eq_true (of_decide_eq_true (by first | (with_reducible assumption) | assumption)); replace q44 := eq_true q44) | (go_at_call 19; (with_reducible refine (words_Sign.calls k1 (bt t324 0) t325 _ A45.out).mono ?_); rintro e w' ⟨rfl, ⟨nd, rfl⟩⟩; (try clear A45)))
                                go_ret
                                exact ⟨by first | rfl | (simp [errW_none, errW_some] <;> rfl) | (simp only [← hji35]; first | rfl | (simp [errW_none, errW_some] <;> rfl)) | (simp [*, errW_none, errW_some] <;> rfl), by repeat (first | (with_reducible first | exact HB.out | apply below_alloc | apply pw_below_drewN | apply below_drew1) | exact HB.out)⟩
                              · rw [if_neg c43] at H
                                exact absurd H (by simp)
                            · rw [if_neg c41] at H
                              exact absurd H (by simp)
                          · rw [if_neg c40] at H
                            have c40b0 : (t305 == a0) = false := beq_eq_false_iff_ne.mpr c40
                            have c40b1 : (t305 != a0) = true := bne_iff_ne.mpr c40
                            by_cases c56 : (t320 == false) = true
                            · rw [if_pos c56] at H
                              have c56b0 : (t320 == false) = true := c56
                              (try (have c56b1 : decide (t320 = false) = true := by simpa using c56))
                              (try (have c56b2 : (t320 == false) = true := by simpa using c56))
                              clear c56
                              obtain ⟨y326, hy326⟩ : ∃ y_ : List Int, y_ = (([t305] : List Int)) := ⟨_, rfl⟩
                              replace H : ((columbariumlaw16_great.f k1 (strOfNums y326)).bind fun t329 => (if 0 < (t329.size : Int) then ((words_Sign.f k1 (bt t329 0)).bind fun t330 => (some (t330 == t305))) else (none))) = some r := by first | (rw [hy326]; with_reducible exact H) | (have H2_ := (Option.bind_some _ _).symm.trans H; rw [hy326]; with_reducible exact H2_) | (have H2_ := (Option.bind_some _ _).symm.trans H; with_reducible exact H2_) | with_reducible exact H | (rw [hy326]; exact H) | exact H
                              have Ny326 := Aside0.mk hy326
                              clear hy326
                              replace H := Option.bind_eq_some_iff.mp H
                              obtain ⟨t329, A570, H⟩ := H
                              replace H : (if 0 < (t329.size : Int) then ((words_Sign.f k1 (bt t329 0)).bind fun t330 => (some (t330 == t305))) else (none)) = some r := H
                              have A57 := Aside0.mk A570
                              clear A570
                              by_cases c58 : 0 < (t329.size : Int)
                              · rw [if_pos c58] at H
                                have c58b0 : decide (0 < (t329.size : Int)) = true := decide_eq_true c58
                                have c58b1 : decide (0 < t329.size) = true := decide_eq_true (by omega)
                                clear c58
                                replace H := Option.bind_eq_some_iff.mp H
                                obtain ⟨t330, A600, H⟩ := H
                                replace H : (some (t330 == t305)) = some r := H
                                have A60 := Aside0.mk A600
                                clear A600
                                obtain rfl := Option.some.inj H
                                have hcv61 := own_string (P := Try.prog) Try.underlying33 Try.underlying5 Try.underlying9 (Kd.own_of_R HO_8.out)
                                go_wp2_with (first | ((with_reducible refine gate_callee (f := 11) rfl ?_); refine goesL_ (some 29) rfl rfl Try.func11 (by kernel_rfl) rfl #[.string (strOfNums x8_1)] rfl (by (try simp only [List.map_toArray, List.map_cons, List.map_nil]); first | done | rfl | (simp only [List.length_drop, List.length_take]; rfl)) ?_; (with_reducible refine (words_Split.calls (strOfNums x8_1) t310 t313 _ A10.out).mono ?_); rintro e w62 ⟨v311, rfl, ho0, hb⟩; (try clear A10); refine ⟨_, rfl, ?_⟩; have n0_ := Aside0.mk (Kd.R_below (by (with_reducible repeat (first | apply Kd.R_alloc | apply Kd.R_drewN | apply Kd.R_drew)); exact HO_8.out) hb); have n1_ := Aside0.mk (Kd.V_lower (Kd.V_mono (ok' := fun k_ => some k_ ≠ (u8 : Value).ownBlock) ho0 (fun k_ hk_ => (Kd.fresh' (Kd.R_lt (by (with_reducible repeat (first | apply Kd.R_alloc | apply Kd.R_drewN | apply Kd.R_drew)); exact HO_8.out)) k_ hk_))) (below_size (by repeat (first | (with_reducible first | exact HB.out | apply below_alloc | apply pw_below_drewN | apply below_drew1) | exact HB.out)))); have n2_ := Aside0.mk (below_step (by repeat (first | (with_reducible first | exact HB.out | apply below_alloc | apply pw_below_drewN | apply below_drew1) | exact HB.out)) hb); clear HO_8; clear HB; have HO_8 := n0_; have HO312 := n1_; have HB := n2_; clear n0_ n1_ n2_; (try clear hb); (try clear hb2); (try clear hk); (try clear hi); (try clear ho0)) | (go_at_call 19; (with_reducible refine (words_Sign.calls k1 t305 t315 _ A21.out).mono ?_); rintro e w' ⟨rfl, ⟨nd, rfl⟩⟩; (try clear A21); obtain ⟨Ao63, co63, eo63⟩ := Kd.V_slice HO312.out; subst eo63; have p317 : 0 ≤ (0 : Int) := (by omega); have q317 : 0 < (t310.length : Int) := of_decide_eq_true (by first | (with_reducible assumption) | assumption); obtain ⟨ad317, e317, hx317_0⟩ := Kd.at_string (Kd.V_reads' HO312.out).2.2 0 p317 q317; cases e317; have qi317 : (0 < t310.length) = True := eq_true (by omega); (try rw [show ((0 : Int)).toNat = 0 from rfl] at hx317_0); (try rw [Addr.add_zero'] at hx317_0); replace p317 := eq_true p317; replace q317 := eq_true q317; have p318 : 0 ≤ (0 : Int) := (by omega); have q318 : 0 < (t310.length : Int) := of_decide_eq_true (by first | (with_reducible assumption) | assumption); obtain ⟨ad318, e318, hx318_0⟩ := Kd.at_string (Kd.V_reads' HO312.out).2.2 0 p318 q318; obtain rfl : ad317 = ad318 := (by injection e318); have qi318 : (0 < t310.length) = True := eq_true (by omega); (try rw [show ((0 : Int)).toNat = 0 from rfl] at hx318_0); (try rw [Addr.add_zero'] at hx318_0); replace p318 := eq_true p318; replace q318 := eq_true q318) | (go_at_call 16; (with_reducible refine (words_May.calls k1 (rdOf ByteArray.empty t310 0) true _ A37.out).mono ?_); rintro e w64 ⟨rfl, hb⟩; (try clear A37); have n0_ := Aside0.mk (Kd.R_below (by (with_reducible repeat (first | apply Kd.R_alloc | apply Kd.R_drewN | apply Kd.R_drew)); exact HO_8.out) hb); have n1_ := Aside0.mk (Kd.V_below (by (with_reducible repeat (first | apply Kd.V_alloc | apply Kd.V_drewN | apply Kd.V_drew)); exact HO312.out) hb); have n2_ := Aside0.mk (below_step (by repeat (first | (with_reducible first | exact HB.out | apply below_alloc | apply pw_below_drewN | apply below_drew1) | exact HB.out)) hb); clear HO_8; clear HO312; clear HB; have HO_8 := n0_; have HO312 := n1_; have HB := n2_; clear n0_ n1_ n2_; (try clear hb); (try clear hb2); (try clear hk); (try clear hi); have hcv65 := own_string (P := Try.prog) Try.underlying33 Try.underlying5 Try.underlying9 (Kd.own_of_R HO_8.out)) | (go_at_call 16; (with_reducible refine (words_May.calls k1 (strOfNums x8_1) t320 _ A39.out).mono ?_); rintro e w66 ⟨rfl, hb⟩; (try clear A39); have n0_ := Aside0.mk (Kd.R_below (by (with_reducible repeat (first | apply Kd.R_alloc | apply Kd.R_drewN | apply Kd.R_drew)); exact HO_8.out) hb); have n1_ := Aside0.mk (Kd.V_below (by (with_reducible repeat (first | apply Kd.V_alloc | apply Kd.V_drewN | apply Kd.V_drew)); exact HO312.out) hb); have n2_ := Aside0.mk (below_step (by repeat (first | (with_reducible first | exact HB.out | apply below_alloc | apply pw_below_drewN | apply below_drew1) | exact HB.out)) hb); clear HO_8; clear HO312; clear HB; have HO_8 := n0_; have HO312 := n1_; have HB := n2_; clear n0_ n1_ n2_; (try clear hb); (try clear hb2); (try clear hk); (try clear hi)) | ((with_reducible refine gate_dst (N := 98) rfl ?_); (try (refine gate_guard (by rfl) ?_; dsimp only)); refine Kd.R_lit (Kd.int .u8) _ 5 ?hg (N := 98) ?hd (xs := ([t305] : List Int)) (inner := [.int .u8 t305]) (ok := fun _ => True) (okp := fun _ => True) ?hr ?hp (fun _ hk => hk) trivial (Below.refl _ _) (Nat.le_refl _) (by simp) ?_; (case hd => rfl); (case hg => rfl); (case hr => first | (go_simp; done) | (go_simp; rfl)); (case hp => exact (Reps.one (show Kd.M (Kd.int .u8) _ _ _ t305 [.int .u8 t305] from rfl) (Reps.none _ _))); intro v327 w67 ho68 hb hg_ hnew_; clear hg_ hnew_; (first | rw [← Ny326.out] at ho68 | (simp only [Int.reduceToNat] at ho68; rw [← Ny326.out] at ho68)); have n0_ := Aside0.mk (Kd.R_elder' (by (with_reducible repeat (first | apply Kd.R_alloc | apply Kd.R_drewN | apply Kd.R_drew)); exact HO_8.out) (Kd.R_base ho68) hb); have n1_ := Aside0.mk (Kd.V_elder' (by (with_reducible repeat (first | apply Kd.V_alloc | apply Kd.V_drewN | apply Kd.V_drew)); exact HO312.out) (Kd.R_base ho68) hb); have n2_ := Aside0.mk (Kd.R_lower (Kd.R_new' ho68 (Kd.R_lt (by (with_reducible repeat (first | apply Kd.R_alloc | apply Kd.R_drewN | apply Kd.R_drew)); exact HO_8.out))) (below_size (by repeat (first | (with_reducible first | exact HB.out | apply below_alloc | apply pw_below_drewN | apply below_drew1) | exact HB.out)))); have n3_ := Aside0.mk (below_step (by repeat (first | (with_reducible first | exact HB.out | apply below_alloc | apply pw_below_drewN | apply below_drew1) | exact HB.out)) hb); clear HO_8; clear HO312; clear HB; have HO_8 := n0_; have HO312 := n1_; have HO328 := n2_; have HB := n3_; clear n0_ n1_ n2_ n3_; clear hb ho68; have hcv69 := own_string (P := Try.prog) Try.underlying33 Try.underlying5 Try.underlying9 (Kd.own_of_R HO328.out)) | (go_at_call 10; (with_reducible refine (columbariumlaw16_great.calls k1 (strOfNums y326) t329 _ A57.out).mono ?_); rintro e w70 ⟨rfl, hb⟩; (try clear A57); have n0_ := Aside0.mk (Kd.R_below (by (with_reducible repeat (first | apply Kd.R_alloc | apply Kd.R_drewN | apply Kd.R_drew)); exact HO_8.out) hb); have n1_ := Aside0.mk (Kd.V_below (by (with_reducible repeat (first | apply Kd.V_alloc | apply Kd.V_drewN | apply Kd.V_drew)); exact HO312.out) hb); have n2_ := Aside0.mk (Kd.R_below (by (with_reducible repeat (first | apply Kd.R_alloc | apply Kd.R_drewN | apply Kd.R_drew)); exact HO328.out) hb); have n3_ := Aside0.mk (below_step (by repeat (first | (with_reducible first | exact HB.out | apply below_alloc | apply pw_below_drewN | apply below_drew1) | exact HB.out)) hb); clear HO_8; clear HO312; clear HO328; clear HB; have HO_8 := n0_; have HO312 := n1_; have HO328 := n2_; have HB := n3_; clear n0_ n1_ n2_ n3_; (try clear hb); (try clear hb2); (try clear hk); (try clear hi); have p59 : 0 ≤ (0 : Int) := (by omega); have q59 : 0 < t329.size := (by have : (0 : Int) < (t329.size : Int) := of_decide_eq_true (by first | (with_reducible assumption) | assumption); omega); have hx59 : ∀ h : 0 < t329.size, ((t329[0]'h).toNat : Int) = bt t329 0 := bt_at t329 0; clear p59; have qi59 : (0 < (t329.size : Int)) = True := eq_true (of_decide_eq_true (by first | (with_reducible assumption) | assumption)); replace q59 := eq_true q59) | (go_at_call 19; (with_reducible refine (words_Sign.calls k1 (bt t329 0) t330 _ A60.out).mono ?_); rintro e w' ⟨rfl, ⟨nd, rfl⟩⟩; (try clear A60)))
                                go_ret
                                exact ⟨by first | rfl | (simp [errW_none, errW_some] <;> rfl) | (simp only [← hji35]; first | rfl | (simp [errW_none, errW_some] <;> rfl)) | (simp [*, errW_none, errW_some] <;> rfl), by repeat (first | (with_reducible first | exact HB.out | apply below_alloc | apply pw_below_drewN | apply below_drew1) | exact HB.out)⟩
                              · rw [if_neg c58] at H
                                exact absurd H (by simp)
                            · rw [if_neg c56] at H
                              exact absurd H (by simp)
                        · replace c38 := Bool.eq_false_iff.mpr c38
                          subst c38
                          have H1 : (none) = some r := by rw [if_neg (show ¬ (false = true) by decide)] at H; exact H
                          clear H
                          have H := H1
                          clear H1
                          exact absurd H (by simp)
                      · rw [if_neg c36] at H
                        exact absurd H (by simp)
                    · rw [if_neg c34] at H
                      exact absurd H (by simp)
                  · rw [if_neg c33] at H
                    exact absurd H (by simp)
                · replace c32 := Bool.eq_false_iff.mpr c32
                  subst c32
                  have H1 : (none) = some r := by rw [if_neg (show ¬ (false = true) by decide)] at H; exact H
                  clear H
                  have H := H1
                  clear H1
                  exact absurd H (by simp)
            · rw [if_neg c22] at H
              exact absurd H (by simp)
        · rw [if_neg c11] at H
          exact absurd H (by simp)

end Go.Proofs.Ytpmjnggkhjjiaaa.A
