-- Written by program (this session's myprint.py over the kit's print.py). Not trusted: Lean checks it.
import Derived.Test.YtmddhiokioojlaaAx0
import Derived.Test.YtmddhiokioojlaaAx1
import Derived.Test.YtmddhiokioojlaaAx2
import Derived.Test.YtmddhiokioojlaaAx4
import Derived.Test.YtmddhiokioojlaaAx5
import Derived.Test.YtmddhiokioojlaaAx7
import Derived.Test.YtmddhiokioojlaaAx8
import Derived.Test.YtmddhiokioojlaaAx9
import Derived.Test.YtmddhiokioojlaaAx10
import Derived.Test.YtmddhiokioojlaaAx11
import Derived.Test.YtmddhiokioojlaaHand
namespace Go.Proofs.Ytmddhiokioojlaa.A
open Go.RowKit Go.Proofs.YtmddhiokioojlaaW.PrintWords Go.Proofs.YtmddhiokioojlaaW.PrintLast Go.Proofs.YtmddhiokioojlaaW.PrintMore
attribute [local go_sem] max2_int min2_int max_two min_two max_three min_three max_four min_four   -- for this text's walks alone
set_option linter.unusedVariables false
set_option linter.unusedSimpArgs false

attribute [local go_sem high] eqA24
/-! ### columbariumlaw10_CodecTells: function 3 -/
mutual
def columbariumlaw10_CodecTells.l0 : Nat → List ByteArray → Int → ByteArray → Bool → List Int → Int → Int → ByteArray → Int → Option (Bool)
  | 0, _, _, _, _, _, _, _, _, _ => none
  | k + 1, x1, x3, x4, x11, x43, x44, x45, x247000, x247001 => if x45 < x44 then (if 0 ≤ x45 then (if x45 < (x43.length : Int) then ((codec_Number.f (rd x43 x45)).bind fun bt253 => ((columbariumref10_Number.f (rd x43 x45)).bind fun bt255 => (if bt253.1.toList = bt255.1.toList then (if bt253.2 = bt255.2 then (columbariumlaw10_CodecTells.l0 k x1 x3 x4 x11 x43 x44 (wrap64 (x45 + 1)) x247000 x247001) else (none)) else (none)))) else (none)) else (none)) else ((columbariumlaw10_Few.f k x1).bind fun t257 => ((codec_List.f t257).bind fun bt260 => ((columbariumref10_List.f k t257).bind fun bt262 => (if bt260.1.toList = bt262.1.toList then (if bt260.2 = bt262.2 then (if 0 ≤ (mn (x4.size : Int) 60) then (if (mn (x4.size : Int) 60) ≤ (x4.size : Int) then ((codec_Text.f (x4.extract 0 ((mn (x4.size : Int) 60) : Int).toNat)).bind fun bt264 => ((columbariumref10_Text.f (x4.extract 0 ((mn (x4.size : Int) 60) : Int).toNat)).bind fun bt266 => (if bt264.1.toList = bt266.1.toList then (if bt264.2 = bt266.2 then (if (x247000.size : Int) > 500 then (if x11 = true then (some (bt264.2 == bt266.2)) else (none)) else ((columbariumlaw10_pick.f x3 (wrap64 ((bt262.1.size : Int) + 1))).bind fun t268 => (if 0 ≤ t268 then (if t268 ≤ (bt262.1.size : Int) then (if (t268 : Int).toNat + ((mn (x4.size : Int) 60) : Int).toNat ≤ 9223372036854775807 then (if ((t268 : Int).toNat + ((mn (x4.size : Int) 60) : Int).toNat) + (bt262.1.size - (t268 : Int).toNat) ≤ 9223372036854775807 then (if ((mn (x4.size : Int) 60) : Int).toNat + bt262.1.size ≤ 9223372036854775807 then ((some (([(⟨x247000, x247001⟩ : S24), (⟨bt262.1, 0⟩ : S24), (⟨bt262.1, t268⟩ : S24), (⟨bt262.1.extract 0 (t268 : Int).toNat, 0⟩ : S24), (⟨((bt262.1.extract 0 (t268 : Int).toNat) ++ (x4.extract 0 ((mn (x4.size : Int) 60) : Int).toNat)) ++ (bt262.1.extract (t268 : Int).toNat bt262.1.size), 0⟩ : S24), (⟨(x4.extract 0 ((mn (x4.size : Int) 60) : Int).toNat) ++ bt262.1, ((max (mn (x4.size : Int) 60) 0))⟩ : S24), (⟨x4.extract 0 ((mn (x4.size : Int) 60) : Int).toNat, 0⟩ : S24)] : List (S24)) : List (S24))).bind fun y269 => (columbariumlaw10_CodecTells.l1 k x11 y269 (y269.length : Int) 0)) else (none)) else (none)) else (none)) else (none)) else (none)))) else (if x11 = true then (none) else (none))) else (if x11 = true then (none) else (none))))) else (none)) else (none)) else (none)) else (none)))))
def columbariumlaw10_CodecTells.l1 : Nat → Bool → List (S24) → Int → Int → Option (Bool)
  | 0, _, _, _, _ => none
  | k + 1, x11, x161, x162, x163 => if x163 < x162 then (if 0 ≤ x163 then (if x163 < (x161.length : Int) then ((codec_TakeNumber.f k ((rd_T24 x161 x163).f0) ((rd_T24 x161 x163).f1)).bind fun bt274 => ((columbariumref10_TakeNumber.f k ((rd_T24 x161 x163).f0) ((rd_T24 x161 x163).f1)).bind fun bt279 => (if bt274.1 = bt279.1 then (if (!(bt274.2.1.toList == bt279.2.1.toList) || (!(bt274.2.2.1 == bt279.2.2.1))) = true then (none) else (if bt274.2.2.2 = bt279.2.2.2 then ((codec_End.f ((rd_T24 x161 x163).f0) ((rd_T24 x161 x163).f1)).bind fun t284 => ((columbariumref10_End.f ((rd_T24 x161 x163).f0) ((rd_T24 x161 x163).f1)).bind fun t285 => (if t284 = t285 then ((codec_TakeText.f k ((rd_T24 x161 x163).f0) ((rd_T24 x161 x163).f1)).bind fun bt286 => ((columbariumref10_TakeText.f k ((rd_T24 x161 x163).f0) ((rd_T24 x161 x163).f1)).bind fun bt290 => (if bt286.1.toList = bt290.1.toList then (if (!(bt286.2.1.toList == bt290.2.1.toList) || (!(bt286.2.2.1 == bt290.2.2.1))) = true then (none) else (if bt286.2.2.2 = bt290.2.2.2 then ((codec_TakeList.f k ((rd_T24 x161 x163).f0) ((rd_T24 x161 x163).f1)).bind fun bt294 => ((columbariumref10_TakeList.f k ((rd_T24 x161 x163).f0) ((rd_T24 x161 x163).f1)).bind fun bt300 => ((columbariumref10_Texts.f k bt294.1 bt300.1).bind fun t306 => (if t306 = true then (if (!(bt294.2.1.toList == bt300.2.1.toList) || (!(bt294.2.2.1 == bt300.2.2.1))) = true then (none) else (if bt294.2.2.2 = bt300.2.2.2 then (columbariumlaw10_CodecTells.l1 k x11 x161 x162 (wrap64 (x163 + 1))) else (none))) else (none))))) else (none))) else (none)))) else (none)))) else (none))) else (none)))) else (none)) else (none)) else (some x11)
end
def columbariumlaw10_CodecTells.f (k : Nat) (a0 : Int) (l1 : List ByteArray) (a2_0 : ByteArray) (a2_1 : Int) (a3 : Int) (a4 : ByteArray) : Option (Bool) := (columbariumlaw10_awake.f k).bind fun t247 => ((columbariumlaw10_pick.f a0 2147483648).bind fun t248 => ((some (([a0, t248] : List Int) : List Int)).bind fun y249 => (columbariumlaw10_CodecTells.l0 k l1 a3 a4 t247 y249 (y249.length : Int) 0 a2_0 a2_1)))
theorem columbariumlaw10_CodecTells.mono_l : ∀ k, (∀ y0 y1 y2 y3 y4 y5 y6 y7 y8, LeO (columbariumlaw10_CodecTells.l0 k y0 y1 y2 y3 y4 y5 y6 y7 y8) (columbariumlaw10_CodecTells.l0 (k + 1) y0 y1 y2 y3 y4 y5 y6 y7 y8)) ∧ (∀ y0 y1 y2 y3, LeO (columbariumlaw10_CodecTells.l1 k y0 y1 y2 y3) (columbariumlaw10_CodecTells.l1 (k + 1) y0 y1 y2 y3))
  | 0 => ⟨fun _ _ _ _ _ _ _ _ _ r h => by simp [columbariumlaw10_CodecTells.l0] at h, fun _ _ _ _ r h => by simp [columbariumlaw10_CodecTells.l1] at h⟩
  | k + 1 => by
    obtain ⟨ih0, ih1⟩ := columbariumlaw10_CodecTells.mono_l k
    refine ⟨?_, ?_⟩
    · intro y0 y1 y2 y3 y4 y5 y6 y7 y8
      unfold columbariumlaw10_CodecTells.l0
      repeat' first
      | (with_reducible exact ih0 _ _ _ _ _ _ _ _ _)
      | (with_reducible exact ih1 _ _ _ _)
      | (with_reducible exact codec_TakeList.mono _ _ _)
      | (with_reducible exact codec_TakeNumber.mono _ _ _)
      | (with_reducible exact codec_TakeText.mono _ _ _)
      | (with_reducible exact columbariumlaw10_Few.mono _ _)
      | (with_reducible exact columbariumlaw10_awake.mono _)
      | (with_reducible exact columbariumref10_List.mono _ _)
      | (with_reducible exact columbariumref10_TakeList.mono _ _ _)
      | (with_reducible exact columbariumref10_TakeNumber.mono _ _ _)
      | (with_reducible exact columbariumref10_TakeText.mono _ _ _)
      | (with_reducible exact columbariumref10_Texts.mono _ _ _)
      | (with_reducible exact LeO.refl _)
      | (with_reducible exact LeO.none _)
      | (with_reducible refine LeO.ite ?_ ?_)
      | (with_reducible refine LeO.bind ?_ (fun _ => ?_))
      | exact ih0 _ _ _ _ _ _ _ _ _
      | exact ih1 _ _ _ _
      | exact codec_TakeList.mono _ _ _
      | exact codec_TakeNumber.mono _ _ _
      | exact codec_TakeText.mono _ _ _
      | exact columbariumlaw10_Few.mono _ _
      | exact columbariumlaw10_awake.mono _
      | exact columbariumref10_List.mono _ _
      | exact columbariumref10_TakeList.mono _ _ _
      | exact columbariumref10_TakeNumber.mono _ _ _
      | exact columbariumref10_TakeText.mono _ _ _
      | exact columbariumref10_Texts.mono _ _ _
      | exact LeO.none _
      | refine LeO.ite ?_ ?_
      | refine LeO.bind ?_ (fun _ => ?_)
    · intro y0 y1 y2 y3
      unfold columbariumlaw10_CodecTells.l1
      repeat' first
      | (with_reducible exact ih0 _ _ _ _ _ _ _ _ _)
      | (with_reducible exact ih1 _ _ _ _)
      | (with_reducible exact codec_TakeList.mono _ _ _)
      | (with_reducible exact codec_TakeNumber.mono _ _ _)
      | (with_reducible exact codec_TakeText.mono _ _ _)
      | (with_reducible exact columbariumlaw10_Few.mono _ _)
      | (with_reducible exact columbariumlaw10_awake.mono _)
      | (with_reducible exact columbariumref10_List.mono _ _)
      | (with_reducible exact columbariumref10_TakeList.mono _ _ _)
      | (with_reducible exact columbariumref10_TakeNumber.mono _ _ _)
      | (with_reducible exact columbariumref10_TakeText.mono _ _ _)
      | (with_reducible exact columbariumref10_Texts.mono _ _ _)
      | (with_reducible exact LeO.refl _)
      | (with_reducible exact LeO.none _)
      | (with_reducible refine LeO.ite ?_ ?_)
      | (with_reducible refine LeO.bind ?_ (fun _ => ?_))
      | exact ih0 _ _ _ _ _ _ _ _ _
      | exact ih1 _ _ _ _
      | exact codec_TakeList.mono _ _ _
      | exact codec_TakeNumber.mono _ _ _
      | exact codec_TakeText.mono _ _ _
      | exact columbariumlaw10_Few.mono _ _
      | exact columbariumlaw10_awake.mono _
      | exact columbariumref10_List.mono _ _
      | exact columbariumref10_TakeList.mono _ _ _
      | exact columbariumref10_TakeNumber.mono _ _ _
      | exact columbariumref10_TakeText.mono _ _ _
      | exact columbariumref10_Texts.mono _ _ _
      | exact LeO.none _
      | refine LeO.ite ?_ ?_
      | refine LeO.bind ?_ (fun _ => ?_)
theorem columbariumlaw10_CodecTells.mono : ∀ a0 a1 a2 a3 a4 a5 k, LeO (columbariumlaw10_CodecTells.f k a0 a1 a2 a3 a4 a5) (columbariumlaw10_CodecTells.f (k + 1) a0 a1 a2 a3 a4 a5) := by
  intro a0 a1 a2 a3 a4 a5 k
  obtain ⟨ih0, ih1⟩ := columbariumlaw10_CodecTells.mono_l k
  unfold columbariumlaw10_CodecTells.f
  repeat' first
      | (with_reducible exact ih0 _ _ _ _ _ _ _ _ _)
      | (with_reducible exact ih1 _ _ _ _)
      | (with_reducible exact codec_TakeList.mono _ _ _)
      | (with_reducible exact codec_TakeNumber.mono _ _ _)
      | (with_reducible exact codec_TakeText.mono _ _ _)
      | (with_reducible exact columbariumlaw10_Few.mono _ _)
      | (with_reducible exact columbariumlaw10_awake.mono _)
      | (with_reducible exact columbariumref10_List.mono _ _)
      | (with_reducible exact columbariumref10_TakeList.mono _ _ _)
      | (with_reducible exact columbariumref10_TakeNumber.mono _ _ _)
      | (with_reducible exact columbariumref10_TakeText.mono _ _ _)
      | (with_reducible exact columbariumref10_Texts.mono _ _ _)
      | (with_reducible exact LeO.refl _)
      | (with_reducible exact LeO.none _)
      | (with_reducible refine LeO.ite ?_ ?_)
      | (with_reducible refine LeO.bind ?_ (fun _ => ?_))
      | exact ih0 _ _ _ _ _ _ _ _ _
      | exact ih1 _ _ _ _
      | exact codec_TakeList.mono _ _ _
      | exact codec_TakeNumber.mono _ _ _
      | exact codec_TakeText.mono _ _ _
      | exact columbariumlaw10_Few.mono _ _
      | exact columbariumlaw10_awake.mono _
      | exact columbariumref10_List.mono _ _
      | exact columbariumref10_TakeList.mono _ _ _
      | exact columbariumref10_TakeNumber.mono _ _ _
      | exact columbariumref10_TakeText.mono _ _ _
      | exact columbariumref10_Texts.mono _ _ _
      | exact LeO.none _
      | refine LeO.ite ?_ ?_
      | refine LeO.bind ?_ (fun _ => ?_)
def columbariumlaw10_CodecTells.T21 : Bool × List (List Nat × List Nat) := (true, [([], []), ([], []), ([1], [1]), ([], []), ([], []), ([3, 4], [3, 4]), ([], []), ([], []), ([6, 7], [6, 7]), ([8], [8]), ([], []), ([], []), ([10, 11], [10, 11]), ([], []), ([12, 13], [12, 13]), ([], []), ([], []), ([15, 16], [15, 16]), ([14, 17], [14, 17]), ([18], [18]), ([], []), ([], []), ([20, 21], [20, 21]), ([], []), ([23], [23]), ([22, 24], [22, 24]), ([], []), ([26], [26]), ([0, 2, 5, 9, 19, 25, 27], [0, 2, 5, 9, 19, 25, 27]), ([28], [28]), ([], [])])
def columbariumlaw10_CodecTells.B21 : List Nat := [0, 0, 2, 0, 0, 24, 0, 0, 192, 448, 0, 0, 3072, 0, 15360, 0, 0, 98304, 261120, 523264, 0, 0, 3145728, 0, 8388608, 32505856, 0, 67108864, 268435455, 536870911, 0]
theorem columbariumlaw10_CodecTells.tab21 : rtab .any (opsOf Try.f3 21) = columbariumlaw10_CodecTells.T21 := by kernel_rfl
theorem columbariumlaw10_CodecTells.bits21 : waitsOk columbariumlaw10_CodecTells.T21.2 columbariumlaw10_CodecTells.B21 = true := by kernel_rfl
def columbariumlaw10_CodecTells.T26 : Bool × List (List Nat × List Nat) := (true, [([], []), ([], []), ([0, 1], [0, 1]), ([2], [2]), ([3], [3]), ([3], [3]), ([4, 5, 3], [3, 4, 5]), ([3, 6], [3, 6]), ([7, 3], [7]), ([8], [8]), ([8], [8]), ([9, 10, 8], [8, 9, 10]), ([8, 11], [8, 11]), ([12, 8], [12]), ([13], [13]), ([14, 13, 13], [13, 14]), ([13], [13]), ([16, 15, 13], [13, 16]), ([15, 17, 13], [13, 15, 17]), ([13, 18], [13, 18])])
def columbariumlaw10_CodecTells.B26 : List Nat := [0, 0, 3, 7, 15, 15, 63, 127, 255, 511, 511, 2047, 4095, 8191, 16383, 32767, 16383, 131071, 262143, 524287]
theorem columbariumlaw10_CodecTells.tab26 : rtab .any (opsOf Try.f3 26) = columbariumlaw10_CodecTells.T26 := by kernel_rfl
theorem columbariumlaw10_CodecTells.bits26 : waitsOk columbariumlaw10_CodecTells.T26.2 columbariumlaw10_CodecTells.B26 = true := by kernel_rfl
set_option maxHeartbeats 8000000 in
set_option maxRecDepth 100000 in
theorem columbariumlaw10_CodecTells.calls (k : Nat) (a0 : Int) (A1 : Option Addr) (c1 : Nat) (l1 : List ByteArray) (a2_0 : ByteArray) (a2_1 : Int) (a3 : Int) (a4 : ByteArray) (r : Bool) (w : World) (hr1 : Kd.C Kd.string w A1 l1.length l1) (hc1 : l1.length ≤ c1) (h : columbariumlaw10_CodecTells.f k a0 l1 a2_0 a2_1 a3 a4 = some r) :
    Calls Try.prog 3 #[.int .i64 a0, .slice A1 l1.length c1, .agg #[.string a2_0, .int .i64 a2_1], .int .i64 a3, .string a4] w fun e w' => e = .returned (.bool r) ∧ Below w.heap.size w w' := by
  have hu24 := Try.underlying24
  have HR1 := Aside0.mk hr1
  have HC1 := Aside0.mk hc1
  clear hr1 hc1
  have HB := Aside0.mk (Below.refl w.heap.size w)
  have H : ((columbariumlaw10_awake.f k).bind fun t247 => ((columbariumlaw10_pick.f a0 2147483648).bind fun t248 => ((some (([a0, t248] : List Int) : List Int)).bind fun y249 => (columbariumlaw10_CodecTells.l0 k l1 a3 a4 t247 y249 (y249.length : Int) 0 a2_0 a2_1)))) = some r := h
  clear h
  replace H := Option.bind_eq_some_iff.mp H
  obtain ⟨t247, A60, H⟩ := H
  replace H : ((columbariumlaw10_pick.f a0 2147483648).bind fun t248 => ((some (([a0, t248] : List Int) : List Int)).bind fun y249 => (columbariumlaw10_CodecTells.l0 k l1 a3 a4 t247 y249 (y249.length : Int) 0 a2_0 a2_1))) = some r := H
  have A6 := Aside0.mk A60
  clear A60
  replace H := Option.bind_eq_some_iff.mp H
  obtain ⟨t248, A70, H⟩ := H
  replace H : ((some (([a0, t248] : List Int) : List Int)).bind fun y249 => (columbariumlaw10_CodecTells.l0 k l1 a3 a4 t247 y249 (y249.length : Int) 0 a2_0 a2_1)) = some r := H
  have A7 := Aside0.mk A70
  clear A70
  obtain ⟨y249, hy249⟩ : ∃ y_ : List Int, y_ = (([a0, t248] : List Int)) := ⟨_, rfl⟩
  replace H : (columbariumlaw10_CodecTells.l0 k l1 a3 a4 t247 y249 (y249.length : Int) 0 a2_0 a2_1) = some r := by first | (rw [hy249]; with_reducible exact H) | (have H2_ := (Option.bind_some _ _).symm.trans H; rw [hy249]; with_reducible exact H2_) | (have H2_ := (Option.bind_some _ _).symm.trans H; with_reducible exact H2_) | with_reducible exact H | (rw [hy249]; exact H) | exact H
  have Ny249 := Aside0.mk hy249
  clear hy249
  have H' := Aside0.mk H
  clear H
  go_enter Try.func3, Try.ntmps3
  go_wp2_with (first | ((with_reducible refine gate_dst (N := 7) rfl ?_); (try (refine gate_guard (by rfl) ?_; dsimp only)); refine box_event ?hg (N := 7) ?hd (cs := #[.string a2_0, .int .i64 a2_1]) (t := 24) ?hr ?_; (case hd => rfl); (case hg => rfl); (case hr => first | (go_simp; done) | (go_simp; rfl)); intro gb246 hg w8 hbox hb; have n0_ := Aside0.mk (below_step (by repeat (first | (with_reducible first | exact HB.out | apply below_alloc | apply pw_below_drewN | apply below_drew1) | exact HB.out)) hb); have n1_ := Aside0.mk (hbox); have n2_ := Aside0.mk ((by rw [hg]; exact (below_size (by repeat (first | (with_reducible first | exact HB.out | apply below_alloc | apply pw_below_drewN | apply below_drew1) | exact HB.out))) : w.heap.size ≤ gb246)); have n3_ := Aside0.mk ((by rw [hg]; exact (below_size (by repeat (first | (with_reducible first | exact HB.out | apply below_alloc | apply pw_below_drewN | apply below_drew1) | exact HB.out))) : w.heap.size ≤ gb246)); clear HB; have HB := n0_; have BK246 := n1_; have GW246 := n2_; have GE246 := n3_; clear n0_ n1_ n2_ n3_; clear hb hbox hg) | ((with_reducible refine gate_callee (f := 9) rfl ?_); refine goesL_ (some 39) rfl rfl Try.func9 (by kernel_rfl) rfl #[] rfl (by (try simp only [List.map_toArray, List.map_cons, List.map_nil]); first | done | rfl | (simp only [List.length_drop, List.length_take]; rfl)) ?_; (with_reducible refine (columbariumlaw10_awake.calls k  t247 _ A6.out).mono ?_); rintro e w9 ⟨rfl, hb⟩; refine ⟨_, rfl, ?_⟩; have n0_ := Aside0.mk (blk_below (g := gb246) (o := .cells #[.string a2_0, .int .i64 a2_1] 24 (0, 0)) (by (with_reducible repeat (first | refine blk_drewN ?_ _ | refine blk_drew ?_ | refine blk_alloc ?_ _)); exact BK246.out) hb); have n1_ := Aside0.mk (below_step (by repeat (first | (with_reducible first | exact HB.out | apply below_alloc | apply pw_below_drewN | apply below_drew1 | refine below_set ?_ GE246.out) | exact HB.out)) hb); clear BK246; clear HB; have BK246 := n0_; have HB := n1_; clear n0_ n1_; (try clear hb); (try clear hb2); (try clear hk); (try clear hi)) | ((with_reducible refine gate_callee (f := 10) rfl ?_); refine goesL_ (some 42) rfl rfl Try.func10 (by kernel_rfl) rfl #[.int .i64 a0, .int .i64 2147483648] rfl (by (try simp only [List.map_toArray, List.map_cons, List.map_nil]); first | done | rfl | (simp only [List.length_drop, List.length_take]; rfl)) ?_; (with_reducible refine (columbariumlaw10_pick.calls a0 2147483648 t248 _ A7.out).mono ?_); rintro e w' ⟨rfl, ⟨nd, rfl⟩⟩; refine ⟨_, rfl, ?_⟩) | ((with_reducible refine gate_dst (N := 43) rfl ?_); (try (refine gate_guard (by rfl) ?_; dsimp only)); refine Kd.R_lit (Kd.int .i64) _ 3 ?hg (N := 43) ?hd (xs := ([a0, t248] : List Int)) (inner := [.int .i64 a0, .int .i64 t248]) (ok := fun _ => True) (okp := fun _ => True) ?hr ?hp (fun _ hk => hk) trivial (Below.refl _ _) (Nat.le_refl _) (by simp) ?_; (case hd => rfl); (case hg => rfl); (case hr => first | (go_simp; done) | (go_simp; rfl)); (case hp => exact (Reps.one (show Kd.M (Kd.int .i64) _ _ _ a0 [.int .i64 a0] from rfl) (Reps.one (show Kd.M (Kd.int .i64) _ _ _ t248 [.int .i64 t248] from rfl) (Reps.none _ _)))); intro v250 w10 ho11 hb hg_ hnew_; clear hg_ hnew_; (first | rw [← Ny249.out] at ho11 | (simp only [Int.reduceToNat] at ho11; rw [← Ny249.out] at ho11)); have n0_ := Aside0.mk (Kd.R_lower ho11 (below_size (by repeat (first | (with_reducible first | exact HB.out | apply below_alloc | apply pw_below_drewN | apply below_drew1 | refine below_set ?_ GE246.out) | exact HB.out)))); have n1_ := Aside0.mk (blk_below (g := gb246) (o := .cells #[.string a2_0, .int .i64 a2_1] 24 (0, 0)) (by (with_reducible repeat (first | refine blk_drewN ?_ _ | refine blk_drew ?_ | refine blk_alloc ?_ _)); exact BK246.out) hb); have n2_ := Aside0.mk (below_step (by repeat (first | (with_reducible first | exact HB.out | apply below_alloc | apply pw_below_drewN | apply below_drew1 | refine below_set ?_ GE246.out) | exact HB.out)) hb); clear BK246; clear HB; have HO251 := n0_; have BK246 := n1_; have HB := n2_; clear n0_ n1_ n2_; clear hb ho11; obtain ⟨Ao12, co12, eo12⟩ := Kd.R_slice HO251.out; subst eo12))
  go_loopg [45] k (fun kq v45 w' => ∃ (x45_1 : Int), v45 = .int .i64 x45_1 ∧ Aside0 (columbariumlaw10_CodecTells.l0 kq l1 a3 a4 t247 y249 (y249.length : Int) x45_1 a2_0 a2_1 = some r) ∧ Aside0 (kq ≤ k) ∧ Aside0 (Kd.R (Kd.int .i64) 3 w' w.heap.size (fun _ => True) (.slice Ao12 y249.length co12) y249) ∧ Aside0 (w'.heap[gb246]? = some (.cells #[.string a2_0, .int .i64 a2_1] 24 (0, 0))) ∧ Aside0 (Below w.heap.size w w'))
  case atStart => exact ⟨(0), (by first | rfl | (simp; done) | (simp [*]; done)), H', ⟨Nat.le_refl _⟩, ⟨by (with_reducible repeat (first | apply Kd.R_alloc | apply Kd.R_drewN | apply Kd.R_drew)); exact HO251.out⟩, ⟨by (with_reducible repeat (first | refine blk_drewN ?_ _ | refine blk_drew ?_ | refine blk_alloc ?_ _)); exact BK246.out⟩, ⟨by repeat (first | (with_reducible first | exact HB.out | apply below_alloc | apply pw_below_drewN | apply below_drew1 | refine below_set ?_ GE246.out) | exact HB.out)⟩⟩
  case round =>
    clear H'
    try clear c1
    try clear p2
    try clear c3
    try clear c9
    try clear c10
    obtain ⟨x45_1, rfl, HA, HK1, HO_43, BK246, HB⟩ := hrel
    cases gk with
    | zero => exact absurd HA.out (by simp [columbariumlaw10_CodecTells.l0])
    | succ k1 =>
      have H := HA.out
      clear HA
      simp only [columbariumlaw10_CodecTells.l0] at H
      by_cases c13 : x45_1 < (y249.length : Int)
      · rw [if_pos c13] at H
        have c13b0 : decide (x45_1 < (y249.length : Int)) = true := decide_eq_true c13
        clear c13
        by_cases c14 : 0 ≤ x45_1
        · rw [if_pos c14] at H
          have c14b0 : decide (0 ≤ x45_1) = true := decide_eq_true c14
          clear c14
          by_cases c15 : x45_1 < (y249.length : Int)
          · rw [if_pos c15] at H
            have c15b0 : decide (x45_1 < (y249.length : Int)) = true := decide_eq_true c15
            clear c15
            replace H := Option.bind_eq_some_iff.mp H
            obtain ⟨⟨t253, t254⟩, A160, H⟩ := H
            replace H : ((columbariumref10_Number.f (rd y249 x45_1)).bind fun bt255 => (if t253.toList = bt255.1.toList then (if t254 = bt255.2 then (columbariumlaw10_CodecTells.l0 k1 l1 a3 a4 t247 y249 (y249.length : Int) (wrap64 (x45_1 + 1)) a2_0 a2_1) else (none)) else (none))) = some r := H
            have A16 := Aside0.mk A160
            clear A160
            replace H := Option.bind_eq_some_iff.mp H
            obtain ⟨⟨t255, t256⟩, A170, H⟩ := H
            replace H : (if t253.toList = t255.toList then (if t254 = t256 then (columbariumlaw10_CodecTells.l0 k1 l1 a3 a4 t247 y249 (y249.length : Int) (wrap64 (x45_1 + 1)) a2_0 a2_1) else (none)) else (none)) = some r := H
            have A17 := Aside0.mk A170
            clear A170
            by_cases c18 : t253.toList = t255.toList
            · rw [if_pos c18] at H
              have c18b0 : (t253.toList == t255.toList) = true := beq_iff_eq.mpr c18
              have c18b1 : (t253.toList != t255.toList) = false := bne_eq_false_iff_eq.mpr c18
              clear c18
              by_cases c19 : t254 = t256
              · rw [if_pos c19] at H
                have c19b0 : (t254 == t256) = true := beq_iff_eq.mpr c19
                have c19b1 : (t254 != t256) = false := bne_eq_false_iff_eq.mpr c19
                clear c19
                have H' := Aside0.mk H
                clear H
                have p252 : 0 ≤ (x45_1 : Int) := of_decide_eq_true (by first | (with_reducible assumption) | assumption)
                have q252 : x45_1 < (y249.length : Int) := of_decide_eq_true (by first | (with_reducible assumption) | assumption)
                obtain ⟨ad252, e252, hx252_0⟩ := Kd.at_int (Kd.R_reads' HO_43.out).2.2 x45_1 p252 q252
                cases e252
                replace p252 := eq_true p252
                replace q252 := eq_true q252
                go_wp2_with (first | ((with_reducible refine gate_callee (f := 11) rfl ?_); refine goesL_ (some 51) rfl rfl Try.func11 (by kernel_rfl) rfl #[.int .i64 (rd y249 x45_1)] rfl (by (try simp only [List.map_toArray, List.map_cons, List.map_nil]); first | done | rfl | (simp only [List.length_drop, List.length_take]; rfl)) ?_; (with_reducible refine (codec_Number.calls (rd y249 x45_1) t253 t254 _ A16.out).mono ?_); rintro e w20 ⟨rfl, hb⟩; refine ⟨_, rfl, ?_⟩; have n0_ := Aside0.mk (Kd.R_below (by (with_reducible repeat (first | apply Kd.R_alloc | apply Kd.R_drewN | apply Kd.R_drew)); exact HO_43.out) hb); have n1_ := Aside0.mk (blk_below (g := gb246) (o := .cells #[.string a2_0, .int .i64 a2_1] 24 (0, 0)) (by (with_reducible repeat (first | refine blk_drewN ?_ _ | refine blk_drew ?_ | refine blk_alloc ?_ _)); exact BK246.out) hb); have n2_ := Aside0.mk (below_step (by repeat (first | (with_reducible first | exact HB.out | apply below_alloc | apply pw_below_drewN | apply below_drew1 | refine below_set ?_ GE246.out) | exact HB.out)) hb); clear HO_43; clear BK246; clear HB; have HO_43 := n0_; have BK246 := n1_; have HB := n2_; clear n0_ n1_ n2_; (try clear hb); (try clear hb2); (try clear hk); (try clear hi)) | ((with_reducible refine gate_callee (f := 12) rfl ?_); refine goesL_ (some 56) rfl rfl Try.func12 (by kernel_rfl) rfl #[.int .i64 (rd y249 x45_1)] rfl (by (try simp only [List.map_toArray, List.map_cons, List.map_nil]); first | done | rfl | (simp only [List.length_drop, List.length_take]; rfl)) ?_; (with_reducible refine (columbariumref10_Number.calls (rd y249 x45_1) t255 t256 _ A17.out).mono ?_); rintro e w21 ⟨rfl, hb⟩; refine ⟨_, rfl, ?_⟩; have n0_ := Aside0.mk (Kd.R_below (by (with_reducible repeat (first | apply Kd.R_alloc | apply Kd.R_drewN | apply Kd.R_drew)); exact HO_43.out) hb); have n1_ := Aside0.mk (blk_below (g := gb246) (o := .cells #[.string a2_0, .int .i64 a2_1] 24 (0, 0)) (by (with_reducible repeat (first | refine blk_drewN ?_ _ | refine blk_drew ?_ | refine blk_alloc ?_ _)); exact BK246.out) hb); have n2_ := Aside0.mk (below_step (by repeat (first | (with_reducible first | exact HB.out | apply below_alloc | apply pw_below_drewN | apply below_drew1 | refine below_set ?_ GE246.out) | exact HB.out)) hb); clear HO_43; clear BK246; clear HB; have HO_43 := n0_; have BK246 := n1_; have HB := n2_; clear n0_ n1_ n2_; (try clear hb); (try clear hb2); (try clear hk); (try clear hi)))
                go_roundg k1
                case measure => have := HK1.out; omega
                case rel => exact ⟨(wrap64 (x45_1 + 1)), (by first | rfl | (simp; done) | (simp [*]; done)), H', ⟨by have := HK1.out; omega⟩, ⟨by (with_reducible repeat (first | apply Kd.R_alloc | apply Kd.R_drewN | apply Kd.R_drew)); exact HO_43.out⟩, ⟨by (with_reducible repeat (first | refine blk_drewN ?_ _ | refine blk_drew ?_ | refine blk_alloc ?_ _)); exact BK246.out⟩, ⟨by repeat (first | (with_reducible first | exact HB.out | apply below_alloc | apply pw_below_drewN | apply below_drew1 | refine below_set ?_ GE246.out) | exact HB.out)⟩⟩
              · rw [if_neg c19] at H
                exact absurd H (by simp)
            · rw [if_neg c18] at H
              exact absurd H (by simp)
          · rw [if_neg c15] at H
            exact absurd H (by simp)
        · rw [if_neg c14] at H
          exact absurd H (by simp)
      · rw [if_neg c13] at H
        have c13b0 : decide (x45_1 < (y249.length : Int)) = false := decide_eq_false c13
        clear c13
        replace H := Option.bind_eq_some_iff.mp H
        obtain ⟨t257, A220, H⟩ := H
        replace H : ((codec_List.f t257).bind fun bt260 => ((columbariumref10_List.f k1 t257).bind fun bt262 => (if bt260.1.toList = bt262.1.toList then (if bt260.2 = bt262.2 then (if 0 ≤ (mn (a4.size : Int) 60) then (if (mn (a4.size : Int) 60) ≤ (a4.size : Int) then ((codec_Text.f (a4.extract 0 ((mn (a4.size : Int) 60) : Int).toNat)).bind fun bt264 => ((columbariumref10_Text.f (a4.extract 0 ((mn (a4.size : Int) 60) : Int).toNat)).bind fun bt266 => (if bt264.1.toList = bt266.1.toList then (if bt264.2 = bt266.2 then (if (a2_0.size : Int) > 500 then (if t247 = true then (some (bt264.2 == bt266.2)) else (none)) else ((columbariumlaw10_pick.f a3 (wrap64 ((bt262.1.size : Int) + 1))).bind fun t268 => (if 0 ≤ t268 then (if t268 ≤ (bt262.1.size : Int) then (if (t268 : Int).toNat + ((mn (a4.size : Int) 60) : Int).toNat ≤ 9223372036854775807 then (if ((t268 : Int).toNat + ((mn (a4.size : Int) 60) : Int).toNat) + (bt262.1.size - (t268 : Int).toNat) ≤ 9223372036854775807 then (if ((mn (a4.size : Int) 60) : Int).toNat + bt262.1.size ≤ 9223372036854775807 then ((some (([(⟨a2_0, a2_1⟩ : S24), (⟨bt262.1, 0⟩ : S24), (⟨bt262.1, t268⟩ : S24), (⟨bt262.1.extract 0 (t268 : Int).toNat, 0⟩ : S24), (⟨((bt262.1.extract 0 (t268 : Int).toNat) ++ (a4.extract 0 ((mn (a4.size : Int) 60) : Int).toNat)) ++ (bt262.1.extract (t268 : Int).toNat bt262.1.size), 0⟩ : S24), (⟨(a4.extract 0 ((mn (a4.size : Int) 60) : Int).toNat) ++ bt262.1, ((max (mn (a4.size : Int) 60) 0))⟩ : S24), (⟨a4.extract 0 ((mn (a4.size : Int) 60) : Int).toNat, 0⟩ : S24)] : List (S24)) : List (S24))).bind fun y269 => (columbariumlaw10_CodecTells.l1 k1 t247 y269 (y269.length : Int) 0)) else (none)) else (none)) else (none)) else (none)) else (none)))) else (if t247 = true then (none) else (none))) else (if t247 = true then (none) else (none))))) else (none)) else (none)) else (none)) else (none)))) = some r := H
        have A22 := Aside0.mk A220
        clear A220
        replace H := Option.bind_eq_some_iff.mp H
        obtain ⟨⟨t260, t261⟩, A230, H⟩ := H
        replace H : ((columbariumref10_List.f k1 t257).bind fun bt262 => (if t260.toList = bt262.1.toList then (if t261 = bt262.2 then (if 0 ≤ (mn (a4.size : Int) 60) then (if (mn (a4.size : Int) 60) ≤ (a4.size : Int) then ((codec_Text.f (a4.extract 0 ((mn (a4.size : Int) 60) : Int).toNat)).bind fun bt264 => ((columbariumref10_Text.f (a4.extract 0 ((mn (a4.size : Int) 60) : Int).toNat)).bind fun bt266 => (if bt264.1.toList = bt266.1.toList then (if bt264.2 = bt266.2 then (if (a2_0.size : Int) > 500 then (if t247 = true then (some (bt264.2 == bt266.2)) else (none)) else ((columbariumlaw10_pick.f a3 (wrap64 ((bt262.1.size : Int) + 1))).bind fun t268 => (if 0 ≤ t268 then (if t268 ≤ (bt262.1.size : Int) then (if (t268 : Int).toNat + ((mn (a4.size : Int) 60) : Int).toNat ≤ 9223372036854775807 then (if ((t268 : Int).toNat + ((mn (a4.size : Int) 60) : Int).toNat) + (bt262.1.size - (t268 : Int).toNat) ≤ 9223372036854775807 then (if ((mn (a4.size : Int) 60) : Int).toNat + bt262.1.size ≤ 9223372036854775807 then ((some (([(⟨a2_0, a2_1⟩ : S24), (⟨bt262.1, 0⟩ : S24), (⟨bt262.1, t268⟩ : S24), (⟨bt262.1.extract 0 (t268 : Int).toNat, 0⟩ : S24), (⟨((bt262.1.extract 0 (t268 : Int).toNat) ++ (a4.extract 0 ((mn (a4.size : Int) 60) : Int).toNat)) ++ (bt262.1.extract (t268 : Int).toNat bt262.1.size), 0⟩ : S24), (⟨(a4.extract 0 ((mn (a4.size : Int) 60) : Int).toNat) ++ bt262.1, ((max (mn (a4.size : Int) 60) 0))⟩ : S24), (⟨a4.extract 0 ((mn (a4.size : Int) 60) : Int).toNat, 0⟩ : S24)] : List (S24)) : List (S24))).bind fun y269 => (columbariumlaw10_CodecTells.l1 k1 t247 y269 (y269.length : Int) 0)) else (none)) else (none)) else (none)) else (none)) else (none)))) else (if t247 = true then (none) else (none))) else (if t247 = true then (none) else (none))))) else (none)) else (none)) else (none)) else (none))) = some r := H
        have A23 := Aside0.mk A230
        clear A230
        replace H := Option.bind_eq_some_iff.mp H
        obtain ⟨⟨t262, t263⟩, A240, H⟩ := H
        replace H : (if t260.toList = t262.toList then (if t261 = t263 then (if 0 ≤ (mn (a4.size : Int) 60) then (if (mn (a4.size : Int) 60) ≤ (a4.size : Int) then ((codec_Text.f (a4.extract 0 ((mn (a4.size : Int) 60) : Int).toNat)).bind fun bt264 => ((columbariumref10_Text.f (a4.extract 0 ((mn (a4.size : Int) 60) : Int).toNat)).bind fun bt266 => (if bt264.1.toList = bt266.1.toList then (if bt264.2 = bt266.2 then (if (a2_0.size : Int) > 500 then (if t247 = true then (some (bt264.2 == bt266.2)) else (none)) else ((columbariumlaw10_pick.f a3 (wrap64 ((t262.size : Int) + 1))).bind fun t268 => (if 0 ≤ t268 then (if t268 ≤ (t262.size : Int) then (if (t268 : Int).toNat + ((mn (a4.size : Int) 60) : Int).toNat ≤ 9223372036854775807 then (if ((t268 : Int).toNat + ((mn (a4.size : Int) 60) : Int).toNat) + (t262.size - (t268 : Int).toNat) ≤ 9223372036854775807 then (if ((mn (a4.size : Int) 60) : Int).toNat + t262.size ≤ 9223372036854775807 then ((some (([(⟨a2_0, a2_1⟩ : S24), (⟨t262, 0⟩ : S24), (⟨t262, t268⟩ : S24), (⟨t262.extract 0 (t268 : Int).toNat, 0⟩ : S24), (⟨((t262.extract 0 (t268 : Int).toNat) ++ (a4.extract 0 ((mn (a4.size : Int) 60) : Int).toNat)) ++ (t262.extract (t268 : Int).toNat t262.size), 0⟩ : S24), (⟨(a4.extract 0 ((mn (a4.size : Int) 60) : Int).toNat) ++ t262, ((max (mn (a4.size : Int) 60) 0))⟩ : S24), (⟨a4.extract 0 ((mn (a4.size : Int) 60) : Int).toNat, 0⟩ : S24)] : List (S24)) : List (S24))).bind fun y269 => (columbariumlaw10_CodecTells.l1 k1 t247 y269 (y269.length : Int) 0)) else (none)) else (none)) else (none)) else (none)) else (none)))) else (if t247 = true then (none) else (none))) else (if t247 = true then (none) else (none))))) else (none)) else (none)) else (none)) else (none)) = some r := H
        have A24 := Aside0.mk A240
        clear A240
        by_cases c25 : t260.toList = t262.toList
        · rw [if_pos c25] at H
          have c25b0 : (t260.toList == t262.toList) = true := beq_iff_eq.mpr c25
          have c25b1 : (t260.toList != t262.toList) = false := bne_eq_false_iff_eq.mpr c25
          clear c25
          by_cases c26 : t261 = t263
          · rw [if_pos c26] at H
            have c26b0 : (t261 == t263) = true := beq_iff_eq.mpr c26
            have c26b1 : (t261 != t263) = false := bne_eq_false_iff_eq.mpr c26
            clear c26
            obtain ⟨ji27, hji27⟩ : ∃ j_ : Int, (mn (a4.size : Int) 60) = j_ := ⟨_, rfl⟩
            replace H : (if 0 ≤ (ji27) then (if (ji27) ≤ (a4.size : Int) then ((codec_Text.f (a4.extract 0 ((ji27) : Int).toNat)).bind fun bt264 => ((columbariumref10_Text.f (a4.extract 0 ((ji27) : Int).toNat)).bind fun bt266 => (if bt264.1.toList = bt266.1.toList then (if bt264.2 = bt266.2 then (if (a2_0.size : Int) > 500 then (if t247 = true then (some (bt264.2 == bt266.2)) else (none)) else ((columbariumlaw10_pick.f a3 (wrap64 ((t262.size : Int) + 1))).bind fun t268 => (if 0 ≤ t268 then (if t268 ≤ (t262.size : Int) then (if (t268 : Int).toNat + ((ji27) : Int).toNat ≤ 9223372036854775807 then (if ((t268 : Int).toNat + ((ji27) : Int).toNat) + (t262.size - (t268 : Int).toNat) ≤ 9223372036854775807 then (if ((ji27) : Int).toNat + t262.size ≤ 9223372036854775807 then ((some (([(⟨a2_0, a2_1⟩ : S24), (⟨t262, 0⟩ : S24), (⟨t262, t268⟩ : S24), (⟨t262.extract 0 (t268 : Int).toNat, 0⟩ : S24), (⟨((t262.extract 0 (t268 : Int).toNat) ++ (a4.extract 0 ((ji27) : Int).toNat)) ++ (t262.extract (t268 : Int).toNat t262.size), 0⟩ : S24), (⟨(a4.extract 0 ((ji27) : Int).toNat) ++ t262, ((max (ji27) 0))⟩ : S24), (⟨a4.extract 0 ((ji27) : Int).toNat, 0⟩ : S24)] : List (S24)) : List (S24))).bind fun y269 => (columbariumlaw10_CodecTells.l1 k1 t247 y269 (y269.length : Int) 0)) else (none)) else (none)) else (none)) else (none)) else (none)))) else (if t247 = true then (none) else (none))) else (if t247 = true then (none) else (none))))) else (none)) else (none)) = some r := by first | (rw [hji27] at H; exact H) | (simp only [hji27] at H ⊢; exact H)
            (try rw [hji27] at A22)
            (try rw [hji27] at A23)
            (try rw [hji27] at A24)
            have hji27_ : (if 60 < (a4.size : Int) then 60 else (a4.size : Int)) = ji27 := hji27
            by_cases c28 : 0 ≤ (ji27)
            · rw [if_pos c28] at H
              have c28b0 := eq_true c28
              have c28b1 : decide (0 ≤ (ji27)) = true := decide_eq_true c28
              clear c28
              by_cases c29 : (ji27) ≤ (a4.size : Int)
              · rw [if_pos c29] at H
                have c29b0 := eq_true c29
                have c29b1 : decide ((ji27) ≤ (a4.size : Int)) = true := decide_eq_true c29
                clear c29
                replace H := Option.bind_eq_some_iff.mp H
                obtain ⟨⟨t264, t265⟩, A300, H⟩ := H
                replace H : ((columbariumref10_Text.f (a4.extract 0 ((ji27) : Int).toNat)).bind fun bt266 => (if t264.toList = bt266.1.toList then (if t265 = bt266.2 then (if (a2_0.size : Int) > 500 then (if t247 = true then (some (t265 == bt266.2)) else (none)) else ((columbariumlaw10_pick.f a3 (wrap64 ((t262.size : Int) + 1))).bind fun t268 => (if 0 ≤ t268 then (if t268 ≤ (t262.size : Int) then (if (t268 : Int).toNat + ((ji27) : Int).toNat ≤ 9223372036854775807 then (if ((t268 : Int).toNat + ((ji27) : Int).toNat) + (t262.size - (t268 : Int).toNat) ≤ 9223372036854775807 then (if ((ji27) : Int).toNat + t262.size ≤ 9223372036854775807 then ((some (([(⟨a2_0, a2_1⟩ : S24), (⟨t262, 0⟩ : S24), (⟨t262, t268⟩ : S24), (⟨t262.extract 0 (t268 : Int).toNat, 0⟩ : S24), (⟨((t262.extract 0 (t268 : Int).toNat) ++ (a4.extract 0 ((ji27) : Int).toNat)) ++ (t262.extract (t268 : Int).toNat t262.size), 0⟩ : S24), (⟨(a4.extract 0 ((ji27) : Int).toNat) ++ t262, ((max (ji27) 0))⟩ : S24), (⟨a4.extract 0 ((ji27) : Int).toNat, 0⟩ : S24)] : List (S24)) : List (S24))).bind fun y269 => (columbariumlaw10_CodecTells.l1 k1 t247 y269 (y269.length : Int) 0)) else (none)) else (none)) else (none)) else (none)) else (none)))) else (if t247 = true then (none) else (none))) else (if t247 = true then (none) else (none)))) = some r := H
                have A30 := Aside0.mk A300
                clear A300
                replace H := Option.bind_eq_some_iff.mp H
                obtain ⟨⟨t266, t267⟩, A310, H⟩ := H
                replace H : (if t264.toList = t266.toList then (if t265 = t267 then (if (a2_0.size : Int) > 500 then (if t247 = true then (some (t265 == t267)) else (none)) else ((columbariumlaw10_pick.f a3 (wrap64 ((t262.size : Int) + 1))).bind fun t268 => (if 0 ≤ t268 then (if t268 ≤ (t262.size : Int) then (if (t268 : Int).toNat + ((ji27) : Int).toNat ≤ 9223372036854775807 then (if ((t268 : Int).toNat + ((ji27) : Int).toNat) + (t262.size - (t268 : Int).toNat) ≤ 9223372036854775807 then (if ((ji27) : Int).toNat + t262.size ≤ 9223372036854775807 then ((some (([(⟨a2_0, a2_1⟩ : S24), (⟨t262, 0⟩ : S24), (⟨t262, t268⟩ : S24), (⟨t262.extract 0 (t268 : Int).toNat, 0⟩ : S24), (⟨((t262.extract 0 (t268 : Int).toNat) ++ (a4.extract 0 ((ji27) : Int).toNat)) ++ (t262.extract (t268 : Int).toNat t262.size), 0⟩ : S24), (⟨(a4.extract 0 ((ji27) : Int).toNat) ++ t262, ((max (ji27) 0))⟩ : S24), (⟨a4.extract 0 ((ji27) : Int).toNat, 0⟩ : S24)] : List (S24)) : List (S24))).bind fun y269 => (columbariumlaw10_CodecTells.l1 k1 t247 y269 (y269.length : Int) 0)) else (none)) else (none)) else (none)) else (none)) else (none)))) else (if t247 = true then (none) else (none))) else (if t247 = true then (none) else (none))) = some r := H
                have A31 := Aside0.mk A310
                clear A310
                by_cases c32 : t264.toList = t266.toList
                · rw [if_pos c32] at H
                  have c32b0 : (t264.toList == t266.toList) = true := beq_iff_eq.mpr c32
                  have c32b1 : (t264.toList != t266.toList) = false := bne_eq_false_iff_eq.mpr c32
                  clear c32
                  by_cases c33 : t265 = t267
                  · rw [if_pos c33] at H
                    have c33b0 : (t265 == t267) = true := beq_iff_eq.mpr c33
                    have c33b1 : (t265 != t267) = false := bne_eq_false_iff_eq.mpr c33
                    clear c33
                    by_cases c34 : (a2_0.size : Int) > 500
                    · rw [if_pos c34] at H
                      have c34b0 : decide (500 < (a2_0.size : Int)) = true := decide_eq_true c34
                      have c34b1 : decide (500 < a2_0.size) = true := decide_eq_true (by omega)
                      clear c34
                      by_cases c35 : t247 = true
                      · subst c35
                        have H1 : (some (t265 == t267)) = some r := by rw [if_pos rfl] at H; exact H
                        clear H
                        have H := H1
                        clear H1
                        obtain rfl := Option.some.inj H
                        go_wp2_with (first | ((with_reducible refine gate_callee (f := 13) rfl ?_); refine goesL_ (some 69) rfl rfl Try.func13 (by kernel_rfl) rfl #[.slice A1 l1.length c1] rfl (by (try simp only [List.map_toArray, List.map_cons, List.map_nil]); first | done | rfl | (simp only [List.length_drop, List.length_take]; rfl)) ?_; (with_reducible refine (columbariumlaw10_Few.calls k1 _ _ l1 t257 _ ?side1 ?side2 A22.out).mono ?_); (case side1 => repeat (first | exact (Kd.C_below HR1.out HB.out) | (with_reducible refine Kd.C_alloc ?_ _) | (with_reducible refine Kd.C_drewN ?_ _) | (with_reducible refine Kd.C_drew ?_))); (case side2 => exact HC1.out); rintro e w36 ⟨v258, rfl, ho0, hb⟩; refine ⟨_, rfl, ?_⟩; have n0_ := Aside0.mk (Kd.R_below (by (with_reducible repeat (first | apply Kd.R_alloc | apply Kd.R_drewN | apply Kd.R_drew)); exact HO_43.out) hb); have n1_ := Aside0.mk (Kd.R_lower ho0 (below_size (by repeat (first | (with_reducible first | exact HB.out | apply below_alloc | apply pw_below_drewN | apply below_drew1 | refine below_set ?_ GE246.out) | exact HB.out)))); have n2_ := Aside0.mk (blk_below (g := gb246) (o := .cells #[.string a2_0, .int .i64 a2_1] 24 (0, 0)) (by (with_reducible repeat (first | refine blk_drewN ?_ _ | refine blk_drew ?_ | refine blk_alloc ?_ _)); exact BK246.out) hb); have n3_ := Aside0.mk (below_step (by repeat (first | (with_reducible first | exact HB.out | apply below_alloc | apply pw_below_drewN | apply below_drew1 | refine below_set ?_ GE246.out) | exact HB.out)) hb); clear HO_43; clear BK246; clear HB; have HO_43 := n0_; have HO259 := n1_; have BK246 := n2_; have HB := n3_; clear n0_ n1_ n2_ n3_; (try clear hb); (try clear hb2); (try clear hk); (try clear hi); (try clear ho0); obtain ⟨Ao37, co37, eo37⟩ := Kd.R_slice HO259.out; subst eo37) | ((with_reducible refine gate_callee (f := 14) rfl ?_); refine goesL_ (some 72) rfl rfl Try.func14 (by kernel_rfl) rfl #[.slice Ao37 t257.length co37] rfl (by (try simp only [List.map_toArray, List.map_cons, List.map_nil]); first | done | rfl | (simp only [List.length_drop, List.length_take]; rfl)) ?_; (with_reducible refine (codec_List.calls _ _ t257 t260 t261 _ ?side1 ?side2 A23.out).mono ?_); (case side1 => repeat (first | exact (Kd.R_reads' HO259.out).2.2 | (with_reducible refine Kd.C_alloc ?_ _) | (with_reducible refine Kd.C_drewN ?_ _) | (with_reducible refine Kd.C_drew ?_))); (case side2 => exact (Kd.R_reads' HO259.out).2.1); rintro e w38 ⟨rfl, hb⟩; refine ⟨_, rfl, ?_⟩; have n0_ := Aside0.mk (Kd.R_below (by (with_reducible repeat (first | apply Kd.R_alloc | apply Kd.R_drewN | apply Kd.R_drew)); exact HO_43.out) hb); have n1_ := Aside0.mk (Kd.R_below (by (with_reducible repeat (first | apply Kd.R_alloc | apply Kd.R_drewN | apply Kd.R_drew)); exact HO259.out) hb); have n2_ := Aside0.mk (blk_below (g := gb246) (o := .cells #[.string a2_0, .int .i64 a2_1] 24 (0, 0)) (by (with_reducible repeat (first | refine blk_drewN ?_ _ | refine blk_drew ?_ | refine blk_alloc ?_ _)); exact BK246.out) hb); have n3_ := Aside0.mk (below_step (by repeat (first | (with_reducible first | exact HB.out | apply below_alloc | apply pw_below_drewN | apply below_drew1 | refine below_set ?_ GE246.out) | exact HB.out)) hb); clear HO_43; clear HO259; clear BK246; clear HB; have HO_43 := n0_; have HO259 := n1_; have BK246 := n2_; have HB := n3_; clear n0_ n1_ n2_ n3_; (try clear hb); (try clear hb2); (try clear hk); (try clear hi)) | ((with_reducible refine gate_callee (f := 15) rfl ?_); refine goesL_ (some 77) rfl rfl Try.func15 (by kernel_rfl) rfl #[.slice Ao37 t257.length co37] rfl (by (try simp only [List.map_toArray, List.map_cons, List.map_nil]); first | done | rfl | (simp only [List.length_drop, List.length_take]; rfl)) ?_; (with_reducible refine (columbariumref10_List.calls k1 _ _ t257 t262 t263 _ ?side1 ?side2 A24.out).mono ?_); (case side1 => repeat (first | exact (Kd.R_reads' HO259.out).2.2 | (with_reducible refine Kd.C_alloc ?_ _) | (with_reducible refine Kd.C_drewN ?_ _) | (with_reducible refine Kd.C_drew ?_))); (case side2 => exact (Kd.R_reads' HO259.out).2.1); rintro e w39 ⟨rfl, hb⟩; refine ⟨_, rfl, ?_⟩; have n0_ := Aside0.mk (Kd.R_below (by (with_reducible repeat (first | apply Kd.R_alloc | apply Kd.R_drewN | apply Kd.R_drew)); exact HO_43.out) hb); have n1_ := Aside0.mk (Kd.R_below (by (with_reducible repeat (first | apply Kd.R_alloc | apply Kd.R_drewN | apply Kd.R_drew)); exact HO259.out) hb); have n2_ := Aside0.mk (blk_below (g := gb246) (o := .cells #[.string a2_0, .int .i64 a2_1] 24 (0, 0)) (by (with_reducible repeat (first | refine blk_drewN ?_ _ | refine blk_drew ?_ | refine blk_alloc ?_ _)); exact BK246.out) hb); have n3_ := Aside0.mk (below_step (by repeat (first | (with_reducible first | exact HB.out | apply below_alloc | apply pw_below_drewN | apply below_drew1 | refine below_set ?_ GE246.out) | exact HB.out)) hb); clear HO_43; clear HO259; clear BK246; clear HB; have HO_43 := n0_; have HO259 := n1_; have BK246 := n2_; have HB := n3_; clear n0_ n1_ n2_ n3_; (try clear hb); (try clear hb2); (try clear hk); (try clear hi)) | ((with_reducible refine gate_callee (f := 16) rfl ?_); refine goesL_ (some 95) rfl rfl Try.func16 (by kernel_rfl) rfl #[.string (a4.extract 0 ((ji27) : Int).toNat)] rfl (by (try simp only [List.map_toArray, List.map_cons, List.map_nil]); first | done | (simp only [hji27]; rfl) | rfl | (simp only [List.length_drop, List.length_take]; rfl)) ?_; (with_reducible refine (codec_Text.calls (a4.extract 0 ((ji27) : Int).toNat) t264 t265 _ A30.out).mono ?_); rintro e w40 ⟨rfl, hb⟩; refine ⟨_, rfl, ?_⟩; have n0_ := Aside0.mk (Kd.R_below (by (with_reducible repeat (first | apply Kd.R_alloc | apply Kd.R_drewN | apply Kd.R_drew)); exact HO_43.out) hb); have n1_ := Aside0.mk (Kd.R_below (by (with_reducible repeat (first | apply Kd.R_alloc | apply Kd.R_drewN | apply Kd.R_drew)); exact HO259.out) hb); have n2_ := Aside0.mk (blk_below (g := gb246) (o := .cells #[.string a2_0, .int .i64 a2_1] 24 (0, 0)) (by (with_reducible repeat (first | refine blk_drewN ?_ _ | refine blk_drew ?_ | refine blk_alloc ?_ _)); exact BK246.out) hb); have n3_ := Aside0.mk (below_step (by repeat (first | (with_reducible first | exact HB.out | apply below_alloc | apply pw_below_drewN | apply below_drew1 | refine below_set ?_ GE246.out) | exact HB.out)) hb); clear HO_43; clear HO259; clear BK246; clear HB; have HO_43 := n0_; have HO259 := n1_; have BK246 := n2_; have HB := n3_; clear n0_ n1_ n2_ n3_; (try clear hb); (try clear hb2); (try clear hk); (try clear hi)) | ((with_reducible refine gate_callee (f := 17) rfl ?_); refine goesL_ (some 100) rfl rfl Try.func17 (by kernel_rfl) rfl #[.string (a4.extract 0 ((ji27) : Int).toNat)] rfl (by (try simp only [List.map_toArray, List.map_cons, List.map_nil]); first | done | (simp only [hji27]; rfl) | rfl | (simp only [List.length_drop, List.length_take]; rfl)) ?_; (with_reducible refine (columbariumref10_Text.calls (a4.extract 0 ((ji27) : Int).toNat) t266 t267 _ A31.out).mono ?_); rintro e w41 ⟨rfl, hb⟩; refine ⟨_, rfl, ?_⟩; have n0_ := Aside0.mk (Kd.R_below (by (with_reducible repeat (first | apply Kd.R_alloc | apply Kd.R_drewN | apply Kd.R_drew)); exact HO_43.out) hb); have n1_ := Aside0.mk (Kd.R_below (by (with_reducible repeat (first | apply Kd.R_alloc | apply Kd.R_drewN | apply Kd.R_drew)); exact HO259.out) hb); have n2_ := Aside0.mk (blk_below (g := gb246) (o := .cells #[.string a2_0, .int .i64 a2_1] 24 (0, 0)) (by (with_reducible repeat (first | refine blk_drewN ?_ _ | refine blk_drew ?_ | refine blk_alloc ?_ _)); exact BK246.out) hb); have n3_ := Aside0.mk (below_step (by repeat (first | (with_reducible first | exact HB.out | apply below_alloc | apply pw_below_drewN | apply below_drew1 | refine below_set ?_ GE246.out) | exact HB.out)) hb); clear HO_43; clear HO259; clear BK246; clear HB; have HO_43 := n0_; have HO259 := n1_; have BK246 := n2_; have HB := n3_; clear n0_ n1_ n2_ n3_; (try clear hb); (try clear hb2); (try clear hk); (try clear hi); have hcz42_0 : w41.cell? ⟨gb246, 0, none⟩ = some (.string a2_0) := (blk_cell BK246.out 0).trans rfl; have hcz42_1 : w41.cell? ⟨gb246, 1, none⟩ = some (.int .i64 a2_1) := (blk_cell BK246.out 1).trans rfl; have hfz42_0 := blk_frozen BK246.out 0; have hfz42_1 := blk_frozen BK246.out 1))
                        go_ret
                        exact ⟨by first | rfl | (simp [errW_none, errW_some] <;> rfl) | (simp only [← hji27]; first | rfl | (simp [errW_none, errW_some] <;> rfl)) | (simp [*, errW_none, errW_some] <;> rfl), by repeat (first | (with_reducible first | exact HB.out | apply below_alloc | apply pw_below_drewN | apply below_drew1 | refine below_set ?_ GE246.out) | exact HB.out)⟩
                      · replace c35 := Bool.eq_false_iff.mpr c35
                        subst c35
                        have H1 : (none) = some r := by rw [if_neg (show ¬ (false = true) by decide)] at H; exact H
                        clear H
                        have H := H1
                        clear H1
                        exact absurd H (by simp)
                    · rw [if_neg c34] at H
                      have c34b0 : decide (500 < (a2_0.size : Int)) = false := decide_eq_false c34
                      have c34b1 : decide (500 < a2_0.size) = false := decide_eq_false (by omega)
                      clear c34
                      replace H := Option.bind_eq_some_iff.mp H
                      obtain ⟨t268, A430, H⟩ := H
                      replace H : (if 0 ≤ t268 then (if t268 ≤ (t262.size : Int) then (if (t268 : Int).toNat + ((ji27) : Int).toNat ≤ 9223372036854775807 then (if ((t268 : Int).toNat + ((ji27) : Int).toNat) + (t262.size - (t268 : Int).toNat) ≤ 9223372036854775807 then (if ((ji27) : Int).toNat + t262.size ≤ 9223372036854775807 then ((some (([(⟨a2_0, a2_1⟩ : S24), (⟨t262, 0⟩ : S24), (⟨t262, t268⟩ : S24), (⟨t262.extract 0 (t268 : Int).toNat, 0⟩ : S24), (⟨((t262.extract 0 (t268 : Int).toNat) ++ (a4.extract 0 ((ji27) : Int).toNat)) ++ (t262.extract (t268 : Int).toNat t262.size), 0⟩ : S24), (⟨(a4.extract 0 ((ji27) : Int).toNat) ++ t262, ((max (ji27) 0))⟩ : S24), (⟨a4.extract 0 ((ji27) : Int).toNat, 0⟩ : S24)] : List (S24)) : List (S24))).bind fun y269 => (columbariumlaw10_CodecTells.l1 k1 t247 y269 (y269.length : Int) 0)) else (none)) else (none)) else (none)) else (none)) else (none)) = some r := H
                      have A43 := Aside0.mk A430
                      clear A430
                      by_cases c44 : 0 ≤ t268
                      · rw [if_pos c44] at H
                        have c44b0 := eq_true c44
                        have c44b1 : decide (0 ≤ t268) = true := decide_eq_true c44
                        clear c44
                        by_cases c45 : t268 ≤ (t262.size : Int)
                        · rw [if_pos c45] at H
                          have c45b0 := eq_true c45
                          have c45b1 : decide (t268 ≤ (t262.size : Int)) = true := decide_eq_true c45
                          clear c45
                          have c46b0 := eq_true (of_decide_eq_true (by first | (with_reducible assumption) | assumption) : 0 ≤ t268)
                          have c47b0 := eq_true (of_decide_eq_true (by first | (with_reducible assumption) | assumption) : t268 ≤ (t262.size : Int))
                          by_cases c48 : (t268 : Int).toNat + ((ji27) : Int).toNat ≤ 9223372036854775807
                          · rw [if_pos c48] at H
                            have c48b0 := eq_true c48
                            have c48b1 : decide ((t268 : Int).toNat + ((ji27) : Int).toNat ≤ 9223372036854775807) = true := decide_eq_true c48
                            try have c48b2 : (9223372036854775807 < (t268 : Int).toNat + ((ji27) : Int).toNat) = False := eq_false (Nat.not_lt.2 c48)
                            have c49b0 := eq_true (of_decide_eq_true (by first | (with_reducible assumption) | assumption) : 0 ≤ t268)
                            have c50b0 := eq_true (of_decide_eq_true (by first | (with_reducible assumption) | assumption) : t268 ≤ (t262.size : Int))
                            by_cases c51 : ((t268 : Int).toNat + ((ji27) : Int).toNat) + (t262.size - (t268 : Int).toNat) ≤ 9223372036854775807
                            · rw [if_pos c51] at H
                              have c51b0 := eq_true c51
                              have c51b1 : decide (((t268 : Int).toNat + ((ji27) : Int).toNat) + (t262.size - (t268 : Int).toNat) ≤ 9223372036854775807) = true := decide_eq_true c51
                              try have c51b2 : (9223372036854775807 < ((t268 : Int).toNat + ((ji27) : Int).toNat) + (t262.size - (t268 : Int).toNat)) = False := eq_false (Nat.not_lt.2 c51)
                              by_cases c52 : ((ji27) : Int).toNat + t262.size ≤ 9223372036854775807
                              · rw [if_pos c52] at H
                                have c52b0 := eq_true c52
                                have c52b1 : decide (((ji27) : Int).toNat + t262.size ≤ 9223372036854775807) = true := decide_eq_true c52
                                try have c52b2 : (9223372036854775807 < ((ji27) : Int).toNat + t262.size) = False := eq_false (Nat.not_lt.2 c52)
                                obtain ⟨y269, hy269⟩ : ∃ y_ : List (S24), y_ = (([(⟨a2_0, a2_1⟩ : S24), (⟨t262, 0⟩ : S24), (⟨t262, t268⟩ : S24), (⟨t262.extract 0 (t268 : Int).toNat, 0⟩ : S24), (⟨((t262.extract 0 (t268 : Int).toNat) ++ (a4.extract 0 ((ji27) : Int).toNat)) ++ (t262.extract (t268 : Int).toNat t262.size), 0⟩ : S24), (⟨(a4.extract 0 ((ji27) : Int).toNat) ++ t262, ((max (ji27) 0))⟩ : S24), (⟨a4.extract 0 ((ji27) : Int).toNat, 0⟩ : S24)] : List (S24))) := ⟨_, rfl⟩
                                replace H : (columbariumlaw10_CodecTells.l1 k1 t247 y269 (y269.length : Int) 0) = some r := by first | (rw [hy269]; with_reducible exact H) | (have H2_ := (Option.bind_some _ _).symm.trans H; rw [hy269]; with_reducible exact H2_) | (have H2_ := (Option.bind_some _ _).symm.trans H; with_reducible exact H2_) | with_reducible exact H | (rw [hy269]; exact H) | exact H
                                have Ny269 := Aside0.mk hy269
                                clear hy269
                                have H' := Aside0.mk H
                                clear H
                                try go_wp2_with (first | ((with_reducible refine gate_callee (f := 13) rfl ?_); refine goesL_ (some 69) rfl rfl Try.func13 (by kernel_rfl) rfl #[.slice A1 l1.length c1] rfl (by (try simp only [List.map_toArray, List.map_cons, List.map_nil]); first | done | rfl | (simp only [List.length_drop, List.length_take]; rfl)) ?_; (with_reducible refine (columbariumlaw10_Few.calls k1 _ _ l1 t257 _ ?side1 ?side2 A22.out).mono ?_); (case side1 => repeat (first | exact (Kd.C_below HR1.out HB.out) | (with_reducible refine Kd.C_alloc ?_ _) | (with_reducible refine Kd.C_drewN ?_ _) | (with_reducible refine Kd.C_drew ?_))); (case side2 => exact HC1.out); rintro e w53 ⟨v258, rfl, ho0, hb⟩; refine ⟨_, rfl, ?_⟩; have n0_ := Aside0.mk (Kd.R_below (by (with_reducible repeat (first | apply Kd.R_alloc | apply Kd.R_drewN | apply Kd.R_drew)); exact HO_43.out) hb); have n1_ := Aside0.mk (Kd.R_lower ho0 (below_size (by repeat (first | (with_reducible first | exact HB.out | apply below_alloc | apply pw_below_drewN | apply below_drew1 | refine below_set ?_ GE246.out) | exact HB.out)))); have n2_ := Aside0.mk (blk_below (g := gb246) (o := .cells #[.string a2_0, .int .i64 a2_1] 24 (0, 0)) (by (with_reducible repeat (first | refine blk_drewN ?_ _ | refine blk_drew ?_ | refine blk_alloc ?_ _)); exact BK246.out) hb); have n3_ := Aside0.mk (below_step (by repeat (first | (with_reducible first | exact HB.out | apply below_alloc | apply pw_below_drewN | apply below_drew1 | refine below_set ?_ GE246.out) | exact HB.out)) hb); clear HO_43; clear BK246; clear HB; have HO_43 := n0_; have HO259 := n1_; have BK246 := n2_; have HB := n3_; clear n0_ n1_ n2_ n3_; (try clear hb); (try clear hb2); (try clear hk); (try clear hi); (try clear ho0); obtain ⟨Ao54, co54, eo54⟩ := Kd.R_slice HO259.out; subst eo54) | ((with_reducible refine gate_callee (f := 14) rfl ?_); refine goesL_ (some 72) rfl rfl Try.func14 (by kernel_rfl) rfl #[.slice Ao54 t257.length co54] rfl (by (try simp only [List.map_toArray, List.map_cons, List.map_nil]); first | done | rfl | (simp only [List.length_drop, List.length_take]; rfl)) ?_; (with_reducible refine (codec_List.calls _ _ t257 t260 t261 _ ?side1 ?side2 A23.out).mono ?_); (case side1 => repeat (first | exact (Kd.R_reads' HO259.out).2.2 | (with_reducible refine Kd.C_alloc ?_ _) | (with_reducible refine Kd.C_drewN ?_ _) | (with_reducible refine Kd.C_drew ?_))); (case side2 => exact (Kd.R_reads' HO259.out).2.1); rintro e w55 ⟨rfl, hb⟩; refine ⟨_, rfl, ?_⟩; have n0_ := Aside0.mk (Kd.R_below (by (with_reducible repeat (first | apply Kd.R_alloc | apply Kd.R_drewN | apply Kd.R_drew)); exact HO_43.out) hb); have n1_ := Aside0.mk (Kd.R_below (by (with_reducible repeat (first | apply Kd.R_alloc | apply Kd.R_drewN | apply Kd.R_drew)); exact HO259.out) hb); have n2_ := Aside0.mk (blk_below (g := gb246) (o := .cells #[.string a2_0, .int .i64 a2_1] 24 (0, 0)) (by (with_reducible repeat (first | refine blk_drewN ?_ _ | refine blk_drew ?_ | refine blk_alloc ?_ _)); exact BK246.out) hb); have n3_ := Aside0.mk (below_step (by repeat (first | (with_reducible first | exact HB.out | apply below_alloc | apply pw_below_drewN | apply below_drew1 | refine below_set ?_ GE246.out) | exact HB.out)) hb); clear HO_43; clear HO259; clear BK246; clear HB; have HO_43 := n0_; have HO259 := n1_; have BK246 := n2_; have HB := n3_; clear n0_ n1_ n2_ n3_; (try clear hb); (try clear hb2); (try clear hk); (try clear hi)) | ((with_reducible refine gate_callee (f := 15) rfl ?_); refine goesL_ (some 77) rfl rfl Try.func15 (by kernel_rfl) rfl #[.slice Ao54 t257.length co54] rfl (by (try simp only [List.map_toArray, List.map_cons, List.map_nil]); first | done | rfl | (simp only [List.length_drop, List.length_take]; rfl)) ?_; (with_reducible refine (columbariumref10_List.calls k1 _ _ t257 t262 t263 _ ?side1 ?side2 A24.out).mono ?_); (case side1 => repeat (first | exact (Kd.R_reads' HO259.out).2.2 | (with_reducible refine Kd.C_alloc ?_ _) | (with_reducible refine Kd.C_drewN ?_ _) | (with_reducible refine Kd.C_drew ?_))); (case side2 => exact (Kd.R_reads' HO259.out).2.1); rintro e w56 ⟨rfl, hb⟩; refine ⟨_, rfl, ?_⟩; have n0_ := Aside0.mk (Kd.R_below (by (with_reducible repeat (first | apply Kd.R_alloc | apply Kd.R_drewN | apply Kd.R_drew)); exact HO_43.out) hb); have n1_ := Aside0.mk (Kd.R_below (by (with_reducible repeat (first | apply Kd.R_alloc | apply Kd.R_drewN | apply Kd.R_drew)); exact HO259.out) hb); have n2_ := Aside0.mk (blk_below (g := gb246) (o := .cells #[.string a2_0, .int .i64 a2_1] 24 (0, 0)) (by (with_reducible repeat (first | refine blk_drewN ?_ _ | refine blk_drew ?_ | refine blk_alloc ?_ _)); exact BK246.out) hb); have n3_ := Aside0.mk (below_step (by repeat (first | (with_reducible first | exact HB.out | apply below_alloc | apply pw_below_drewN | apply below_drew1 | refine below_set ?_ GE246.out) | exact HB.out)) hb); clear HO_43; clear HO259; clear BK246; clear HB; have HO_43 := n0_; have HO259 := n1_; have BK246 := n2_; have HB := n3_; clear n0_ n1_ n2_ n3_; (try clear hb); (try clear hb2); (try clear hk); (try clear hi)) | ((with_reducible refine gate_callee (f := 16) rfl ?_); refine goesL_ (some 95) rfl rfl Try.func16 (by kernel_rfl) rfl #[.string (a4.extract 0 ((ji27) : Int).toNat)] rfl (by (try simp only [List.map_toArray, List.map_cons, List.map_nil]); first | done | (simp only [hji27]; rfl) | rfl | (simp only [List.length_drop, List.length_take]; rfl)) ?_; (with_reducible refine (codec_Text.calls (a4.extract 0 ((ji27) : Int).toNat) t264 t265 _ A30.out).mono ?_); rintro e w57 ⟨rfl, hb⟩; refine ⟨_, rfl, ?_⟩; have n0_ := Aside0.mk (Kd.R_below (by (with_reducible repeat (first | apply Kd.R_alloc | apply Kd.R_drewN | apply Kd.R_drew)); exact HO_43.out) hb); have n1_ := Aside0.mk (Kd.R_below (by (with_reducible repeat (first | apply Kd.R_alloc | apply Kd.R_drewN | apply Kd.R_drew)); exact HO259.out) hb); have n2_ := Aside0.mk (blk_below (g := gb246) (o := .cells #[.string a2_0, .int .i64 a2_1] 24 (0, 0)) (by (with_reducible repeat (first | refine blk_drewN ?_ _ | refine blk_drew ?_ | refine blk_alloc ?_ _)); exact BK246.out) hb); have n3_ := Aside0.mk (below_step (by repeat (first | (with_reducible first | exact HB.out | apply below_alloc | apply pw_below_drewN | apply below_drew1 | refine below_set ?_ GE246.out) | exact HB.out)) hb); clear HO_43; clear HO259; clear BK246; clear HB; have HO_43 := n0_; have HO259 := n1_; have BK246 := n2_; have HB := n3_; clear n0_ n1_ n2_ n3_; (try clear hb); (try clear hb2); (try clear hk); (try clear hi)) | ((with_reducible refine gate_callee (f := 17) rfl ?_); refine goesL_ (some 100) rfl rfl Try.func17 (by kernel_rfl) rfl #[.string (a4.extract 0 ((ji27) : Int).toNat)] rfl (by (try simp only [List.map_toArray, List.map_cons, List.map_nil]); first | done | (simp only [hji27]; rfl) | rfl | (simp only [List.length_drop, List.length_take]; rfl)) ?_; (with_reducible refine (columbariumref10_Text.calls (a4.extract 0 ((ji27) : Int).toNat) t266 t267 _ A31.out).mono ?_); rintro e w58 ⟨rfl, hb⟩; refine ⟨_, rfl, ?_⟩; have n0_ := Aside0.mk (Kd.R_below (by (with_reducible repeat (first | apply Kd.R_alloc | apply Kd.R_drewN | apply Kd.R_drew)); exact HO_43.out) hb); have n1_ := Aside0.mk (Kd.R_below (by (with_reducible repeat (first | apply Kd.R_alloc | apply Kd.R_drewN | apply Kd.R_drew)); exact HO259.out) hb); have n2_ := Aside0.mk (blk_below (g := gb246) (o := .cells #[.string a2_0, .int .i64 a2_1] 24 (0, 0)) (by (with_reducible repeat (first | refine blk_drewN ?_ _ | refine blk_drew ?_ | refine blk_alloc ?_ _)); exact BK246.out) hb); have n3_ := Aside0.mk (below_step (by repeat (first | (with_reducible first | exact HB.out | apply below_alloc | apply pw_below_drewN | apply below_drew1 | refine below_set ?_ GE246.out) | exact HB.out)) hb); clear HO_43; clear HO259; clear BK246; clear HB; have HO_43 := n0_; have HO259 := n1_; have BK246 := n2_; have HB := n3_; clear n0_ n1_ n2_ n3_; (try clear hb); (try clear hb2); (try clear hk); (try clear hi); have hcz59_0 : w58.cell? ⟨gb246, 0, none⟩ = some (.string a2_0) := (blk_cell BK246.out 0).trans rfl; have hcz59_1 : w58.cell? ⟨gb246, 1, none⟩ = some (.int .i64 a2_1) := (blk_cell BK246.out 1).trans rfl; have hfz59_0 := blk_frozen BK246.out 0; have hfz59_1 := blk_frozen BK246.out 1) | ((with_reducible refine gate_callee (f := 10) rfl ?_); refine goesL_ (some 132) rfl rfl Try.func10 (by kernel_rfl) rfl #[.int .i64 a3, .int .i64 (wrap64 ((t262.size : Int) + 1))] rfl (by (try simp only [List.map_toArray, List.map_cons, List.map_nil]); first | done | rfl | (simp only [List.length_drop, List.length_take]; rfl)) ?_; (with_reducible refine (columbariumlaw10_pick.calls a3 (wrap64 ((t262.size : Int) + 1)) t268 _ A43.out).mono ?_); rintro e w' ⟨rfl, ⟨nd, rfl⟩⟩; refine ⟨_, rfl, ?_⟩))
                                (try (rw [drewN_self w58]; generalize hq_ : World.drewN w58 _ = w58; have n0_ : Aside0 (Kd.R Kd.string 9 w58 w.heap.size (fun _ => True) (.slice Ao54 t257.length co54) t257) := ⟨by rw [← hq_]; exact (by (with_reducible repeat (first | apply Kd.R_alloc | apply Kd.R_drewN | apply Kd.R_drew)); exact HO259.out)⟩; have n1_ : Aside0 (Kd.R (Kd.int .i64) 3 w58 w.heap.size (fun _ => True) (.slice Ao12 y249.length co12) y249) := ⟨by rw [← hq_]; exact (by (with_reducible repeat (first | apply Kd.R_alloc | apply Kd.R_drewN | apply Kd.R_drew)); exact HO_43.out)⟩; have n2_ : Aside0 (w58.heap[gb246]? = some (.cells #[.string a2_0, .int .i64 a2_1] 24 (0, 0))) := ⟨by rw [← hq_]; exact (by (with_reducible repeat (first | refine blk_drewN ?_ _ | refine blk_drew ?_ | refine blk_alloc ?_ _)); exact BK246.out)⟩; have n3_ : Aside0 (Below w.heap.size w w58) := ⟨by rw [← hq_]; exact (by repeat (first | (with_reducible first | exact HB.out | apply below_alloc | apply pw_below_drewN | apply below_drew1 | refine below_set ?_ GE246.out) | exact HB.out))⟩; clear HO259 HO_43 BK246 HB hq_; have HO259 := n0_; have HO_43 := n1_; have BK246 := n2_; have HB := n3_; clear n0_ n1_ n2_ n3_))
                                have n0_ := Aside0.mk (Kd.R_drew HO_43.out)
                                have n1_ := Aside0.mk (Kd.R_drew HO259.out)
                                have n2_ := Aside0.mk (blk_drew BK246.out)
                                have n3_ := Aside0.mk (below_drew1 HB.out)
                                clear HO_43
                                clear HO259
                                clear BK246
                                clear HB
                                have HO_43 := n0_
                                have HO259 := n1_
                                have BK246 := n2_
                                have HB := n3_
                                clear n0_ n1_ n2_ n3_
                                refine start_ (n := 31) (S := fun w' => w'.cell? ⟨gb246, 0, none⟩ = some (.string a2_0) ∧ w'.cell? ⟨gb246, 1, none⟩ = some (.int .i64 a2_1)) (ds := []) #[false, false, false, false, false, false, false, false, false, false, false, false, false, false, false, false, false, false, false, false, false, false, false, false, false, false, false, false, false, false, false] (by kernel_rfl) rfl rfl ⟨(blk_cell BK246.out 0).trans rfl, (blk_cell BK246.out 1).trans rfl⟩ (fun hHeld => ?_); refine with_tabW columbariumlaw10_CodecTells.tab21 columbariumlaw10_CodecTells.bits21 (fun HT_ HW_ => ?_)
                                generalize w58.drew = w60 at HO_43 HO259 BK246 HB hHeld ⊢
                                refine pure_ (i := 1) (N := some 134) (v := ?_) (a' := ?_) #[false, true, false, false, false, false, false, false, false, false, false, false, false, false, false, false, false, false, false, false, false, false, false, false, false, false, false, false, false, false, false] rfl rfl (any_of HT_.out (by kernel_rfl)) (fun _ _ _ h => h) (Or.inl ⟨by rfl, ?_⟩) ?_ ?_
                                rotate_left
                                · intro w'
                                  go_simp
                                  with_reducible rfl
                                rotate_left
                                · simp only [Act.put, List.setIfInBounds_toArray, List.set_cons_zero, List.set_cons_succ, i64_w, i32_w]
                                  rfl
                                refine pure_ (i := 2) (N := some 135) (v := ?_) (a' := ?_) #[false, true, true, false, false, false, false, false, false, false, false, false, false, false, false, false, false, false, false, false, false, false, false, false, false, false, false, false, false, false, false] rfl rfl (any_of HT_.out (by kernel_rfl)) (fun _ _ _ h => h) (Or.inl ⟨by rfl, ?_⟩) ?_ ?_
                                rotate_left
                                · intro w'
                                  go_simp
                                  with_reducible rfl
                                rotate_left
                                · simp only [Act.put, List.setIfInBounds_toArray, List.set_cons_zero, List.set_cons_succ, i64_w, i32_w]
                                  rfl
                                refine pure_ (i := 3) (N := some 136) (v := ?_) (a' := ?_) #[false, true, true, true, false, false, false, false, false, false, false, false, false, false, false, false, false, false, false, false, false, false, false, false, false, false, false, false, false, false, false] rfl rfl (any_of HT_.out (by kernel_rfl)) (fun _ _ _ h => h) (Or.inl ⟨by rfl, ?_⟩) ?_ ?_
                                rotate_left
                                · intro w'
                                  go_simp
                                  with_reducible rfl
                                rotate_left
                                · simp only [Act.put, List.setIfInBounds_toArray, List.set_cons_zero, List.set_cons_succ, i64_w, i32_w]
                                  rfl
                                refine pure_ (i := 4) (N := some 137) (v := ?_) (a' := ?_) #[false, true, true, true, true, false, false, false, false, false, false, false, false, false, false, false, false, false, false, false, false, false, false, false, false, false, false, false, false, false, false] rfl rfl (any_of HT_.out (by kernel_rfl)) (fun _ _ _ h => h) (Or.inl ⟨by rfl, ?_⟩) ?_ ?_
                                rotate_left
                                · intro w'
                                  go_simp
                                  with_reducible rfl
                                rotate_left
                                · simp only [Act.put, List.setIfInBounds_toArray, List.set_cons_zero, List.set_cons_succ, i64_w, i32_w]
                                  rfl
                                refine pure_ (i := 5) (N := some 138) (v := ?_) (a' := ?_) #[false, true, true, true, true, true, false, false, false, false, false, false, false, false, false, false, false, false, false, false, false, false, false, false, false, false, false, false, false, false, false] rfl rfl (any_of HT_.out (by kernel_rfl)) (fun _ _ _ h => h) (Or.inl ⟨by rfl, ?_⟩) ?_ ?_
                                rotate_left
                                · intro w'
                                  go_simp
                                  with_reducible rfl
                                rotate_left
                                · simp only [Act.put, List.setIfInBounds_toArray, List.set_cons_zero, List.set_cons_succ, i64_w, i32_w]
                                  rfl
                                refine pure_ (i := 6) (N := some 139) (v := ?_) (a' := ?_) #[false, true, true, true, true, true, true, false, false, false, false, false, false, false, false, false, false, false, false, false, false, false, false, false, false, false, false, false, false, false, false] rfl rfl (any_of HT_.out (by kernel_rfl)) (fun _ _ _ h => h) (Or.inl ⟨by rfl, ?_⟩) ?_ ?_
                                rotate_left
                                · intro w'
                                  go_simp
                                  with_reducible rfl
                                rotate_left
                                · simp only [Act.put, List.setIfInBounds_toArray, List.set_cons_zero, List.set_cons_succ, i64_w, i32_w]
                                  rfl
                                refine pure_ (i := 7) (N := some 140) (v := ?_) (a' := ?_) #[false, true, true, true, true, true, true, true, false, false, false, false, false, false, false, false, false, false, false, false, false, false, false, false, false, false, false, false, false, false, false] rfl rfl (any_of HT_.out (by kernel_rfl)) (fun _ _ _ h => h) (Or.inl ⟨by rfl, ?_⟩) ?_ ?_
                                rotate_left
                                · intro w'
                                  go_simp
                                  with_reducible rfl
                                rotate_left
                                · simp only [Act.put, List.setIfInBounds_toArray, List.set_cons_zero, List.set_cons_succ, i64_w, i32_w]
                                  rfl
                                refine pure_ (i := 8) (N := some 141) (v := ?_) (a' := ?_) #[false, true, true, true, true, true, true, true, true, false, false, false, false, false, false, false, false, false, false, false, false, false, false, false, false, false, false, false, false, false, false] rfl rfl (any_of HT_.out (by kernel_rfl)) (fun _ _ _ h => h) (Or.inl ⟨by rfl, ?_⟩) ?_ ?_
                                rotate_left
                                · intro w'
                                  go_simp
                                  with_reducible rfl
                                rotate_left
                                · simp only [Act.put, List.setIfInBounds_toArray, List.set_cons_zero, List.set_cons_succ, i64_w, i32_w]
                                  rfl
                                refine pure_ (i := 9) (N := some 142) (v := ?_) (a' := ?_) #[false, true, true, true, true, true, true, true, true, true, false, false, false, false, false, false, false, false, false, false, false, false, false, false, false, false, false, false, false, false, false] rfl rfl (any_of HT_.out (by kernel_rfl)) (fun _ _ _ h => h) (Or.inl ⟨by rfl, ?_⟩) ?_ ?_
                                rotate_left
                                · intro w'
                                  go_simp
                                  with_reducible rfl
                                rotate_left
                                · simp only [Act.put, List.setIfInBounds_toArray, List.set_cons_zero, List.set_cons_succ, i64_w, i32_w]
                                  rfl
                                refine pure_ (i := 10) (N := some 143) (v := ?_) (a' := ?_) #[false, true, true, true, true, true, true, true, true, true, true, false, false, false, false, false, false, false, false, false, false, false, false, false, false, false, false, false, false, false, false] rfl rfl (any_of HT_.out (by kernel_rfl)) (fun _ _ _ h => h) (Or.inl ⟨by rfl, ?_⟩) ?_ ?_
                                rotate_left
                                · intro w'
                                  go_simp
                                  with_reducible rfl
                                rotate_left
                                · simp only [Act.put, List.setIfInBounds_toArray, List.set_cons_zero, List.set_cons_succ, i64_w, i32_w]
                                  rfl
                                refine pure_ (i := 11) (N := some 144) (v := ?_) (a' := ?_) #[false, true, true, true, true, true, true, true, true, true, true, true, false, false, false, false, false, false, false, false, false, false, false, false, false, false, false, false, false, false, false] rfl rfl (any_of HT_.out (by kernel_rfl)) (fun _ _ _ h => h) (Or.inl ⟨by rfl, ?_⟩) ?_ ?_
                                rotate_left
                                · intro w'
                                  go_simp
                                  with_reducible rfl
                                rotate_left
                                · simp only [Act.put, List.setIfInBounds_toArray, List.set_cons_zero, List.set_cons_succ, i64_w, i32_w]
                                  rfl
                                refine pure_ (i := 12) (N := some 145) (v := ?_) (a' := ?_) #[false, true, true, true, true, true, true, true, true, true, true, true, true, false, false, false, false, false, false, false, false, false, false, false, false, false, false, false, false, false, false] rfl rfl (any_of HT_.out (by kernel_rfl)) (fun _ _ _ h => h) (Or.inl ⟨by rfl, ?_⟩) ?_ ?_
                                rotate_left
                                · intro w'
                                  go_simp
                                  with_reducible rfl
                                rotate_left
                                · simp only [Act.put, List.setIfInBounds_toArray, List.set_cons_zero, List.set_cons_succ, i64_w, i32_w]
                                  rfl
                                refine pure_ (i := 13) (N := some 146) (v := ?_) (a' := ?_) #[false, true, true, true, true, true, true, true, true, true, true, true, true, true, false, false, false, false, false, false, false, false, false, false, false, false, false, false, false, false, false] rfl rfl (any_of HT_.out (by kernel_rfl)) (fun _ _ _ h => h) (Or.inl ⟨by rfl, ?_⟩) ?_ ?_
                                rotate_left
                                · intro w'
                                  go_simp
                                  with_reducible rfl
                                rotate_left
                                · simp only [Act.put, List.setIfInBounds_toArray, List.set_cons_zero, List.set_cons_succ, i64_w, i32_w]
                                  rfl
                                refine pure_ (i := 14) (N := some 147) (v := ?_) (a' := ?_) #[false, true, true, true, true, true, true, true, true, true, true, true, true, true, true, false, false, false, false, false, false, false, false, false, false, false, false, false, false, false, false] rfl rfl (any_of HT_.out (by kernel_rfl)) (fun _ _ _ h => h) (Or.inl ⟨by rfl, ?_⟩) ?_ ?_
                                rotate_left
                                · intro w'
                                  go_simp
                                  with_reducible rfl
                                rotate_left
                                · simp only [Act.put, List.setIfInBounds_toArray, List.set_cons_zero, List.set_cons_succ, i64_w, i32_w]
                                  rfl
                                refine pure_ (i := 15) (N := some 148) (v := ?_) (a' := ?_) #[false, true, true, true, true, true, true, true, true, true, true, true, true, true, true, true, false, false, false, false, false, false, false, false, false, false, false, false, false, false, false] rfl rfl (any_of HT_.out (by kernel_rfl)) (fun _ _ _ h => h) (Or.inl ⟨by rfl, ?_⟩) ?_ ?_
                                rotate_left
                                · intro w'
                                  go_simp
                                  with_reducible rfl
                                rotate_left
                                · simp only [Act.put, List.setIfInBounds_toArray, List.set_cons_zero, List.set_cons_succ, i64_w, i32_w]
                                  rfl
                                refine pure_ (i := 16) (N := some 149) (v := ?_) (a' := ?_) #[false, true, true, true, true, true, true, true, true, true, true, true, true, true, true, true, true, false, false, false, false, false, false, false, false, false, false, false, false, false, false] rfl rfl (any_of HT_.out (by kernel_rfl)) (fun _ _ _ h => h) (Or.inl ⟨by rfl, ?_⟩) ?_ ?_
                                rotate_left
                                · intro w'
                                  go_simp
                                  with_reducible rfl
                                rotate_left
                                · simp only [Act.put, List.setIfInBounds_toArray, List.set_cons_zero, List.set_cons_succ, i64_w, i32_w]
                                  rfl
                                refine pure_ (i := 17) (N := some 150) (v := ?_) (a' := ?_) #[false, true, true, true, true, true, true, true, true, true, true, true, true, true, true, true, true, true, false, false, false, false, false, false, false, false, false, false, false, false, false] rfl rfl (any_of HT_.out (by kernel_rfl)) (fun _ _ _ h => h) (Or.inl ⟨by rfl, ?_⟩) ?_ ?_
                                rotate_left
                                · intro w'
                                  go_simp
                                  with_reducible rfl
                                rotate_left
                                · simp only [Act.put, List.setIfInBounds_toArray, List.set_cons_zero, List.set_cons_succ, i64_w, i32_w]
                                  rfl
                                refine pure_ (i := 18) (N := some 151) (v := ?_) (a' := ?_) #[false, true, true, true, true, true, true, true, true, true, true, true, true, true, true, true, true, true, true, false, false, false, false, false, false, false, false, false, false, false, false] rfl rfl (any_of HT_.out (by kernel_rfl)) (fun _ _ _ h => h) (Or.inl ⟨by rfl, ?_⟩) ?_ ?_
                                rotate_left
                                · intro w'
                                  go_simp
                                  with_reducible rfl
                                rotate_left
                                · simp only [Act.put, List.setIfInBounds_toArray, List.set_cons_zero, List.set_cons_succ, i64_w, i32_w]
                                  rfl
                                refine pure_ (i := 19) (N := some 152) (v := ?_) (a' := ?_) #[false, true, true, true, true, true, true, true, true, true, true, true, true, true, true, true, true, true, true, true, false, false, false, false, false, false, false, false, false, false, false] rfl rfl (any_of HT_.out (by kernel_rfl)) (fun _ _ _ h => h) (Or.inl ⟨by rfl, ?_⟩) ?_ ?_
                                rotate_left
                                · intro w'
                                  go_simp
                                  with_reducible rfl
                                rotate_left
                                · simp only [Act.put, List.setIfInBounds_toArray, List.set_cons_zero, List.set_cons_succ, i64_w, i32_w]
                                  rfl
                                refine pure_ (i := 20) (N := some 153) (v := ?_) (a' := ?_) #[false, true, true, true, true, true, true, true, true, true, true, true, true, true, true, true, true, true, true, true, true, false, false, false, false, false, false, false, false, false, false] rfl rfl (any_of HT_.out (by kernel_rfl)) (fun _ _ _ h => h) (Or.inl ⟨by rfl, ?_⟩) ?_ ?_
                                rotate_left
                                · intro w'
                                  go_simp
                                  with_reducible rfl
                                rotate_left
                                · simp only [Act.put, List.setIfInBounds_toArray, List.set_cons_zero, List.set_cons_succ, i64_w, i32_w]
                                  rfl
                                refine pure_ (i := 21) (N := some 154) (v := ?_) (a' := ?_) #[false, true, true, true, true, true, true, true, true, true, true, true, true, true, true, true, true, true, true, true, true, true, false, false, false, false, false, false, false, false, false] rfl rfl (any_of HT_.out (by kernel_rfl)) (fun _ _ _ h => h) (Or.inl ⟨by rfl, ?_⟩) ?_ ?_
                                rotate_left
                                · intro w'
                                  go_simp
                                  with_reducible rfl
                                rotate_left
                                · simp only [Act.put, List.setIfInBounds_toArray, List.set_cons_zero, List.set_cons_succ, i64_w, i32_w]
                                  rfl
                                refine pure_ (i := 22) (N := some 155) (v := ?_) (a' := ?_) #[false, true, true, true, true, true, true, true, true, true, true, true, true, true, true, true, true, true, true, true, true, true, true, false, false, false, false, false, false, false, false] rfl rfl (any_of HT_.out (by kernel_rfl)) (fun _ _ _ h => h) (Or.inl ⟨by rfl, ?_⟩) ?_ ?_
                                rotate_left
                                · intro w'
                                  go_simp
                                  with_reducible rfl
                                rotate_left
                                · simp only [Act.put, List.setIfInBounds_toArray, List.set_cons_zero, List.set_cons_succ, i64_w, i32_w]
                                  rfl
                                refine pure_ (i := 23) (N := some 156) (v := ?_) (a' := ?_) #[false, true, true, true, true, true, true, true, true, true, true, true, true, true, true, true, true, true, true, true, true, true, true, true, false, false, false, false, false, false, false] rfl rfl (any_of HT_.out (by kernel_rfl)) (fun _ _ _ h => h) (Or.inl ⟨by rfl, ?_⟩) ?_ ?_
                                rotate_left
                                · intro w'
                                  go_simp
                                  with_reducible rfl
                                rotate_left
                                · simp only [Act.put, List.setIfInBounds_toArray, List.set_cons_zero, List.set_cons_succ, i64_w, i32_w]
                                  rfl
                                refine pure_ (i := 24) (N := some 157) (v := ?_) (a' := ?_) #[false, true, true, true, true, true, true, true, true, true, true, true, true, true, true, true, true, true, true, true, true, true, true, true, true, false, false, false, false, false, false] rfl rfl (any_of HT_.out (by kernel_rfl)) (fun _ _ _ h => h) (Or.inl ⟨by rfl, ?_⟩) ?_ ?_
                                rotate_left
                                · intro w'
                                  go_simp
                                  with_reducible rfl
                                rotate_left
                                · simp only [Act.put, List.setIfInBounds_toArray, List.set_cons_zero, List.set_cons_succ, i64_w, i32_w]
                                  rfl
                                refine pure_ (i := 25) (N := some 158) (v := ?_) (a' := ?_) #[false, true, true, true, true, true, true, true, true, true, true, true, true, true, true, true, true, true, true, true, true, true, true, true, true, true, false, false, false, false, false] rfl rfl (any_of HT_.out (by kernel_rfl)) (fun _ _ _ h => h) (Or.inl ⟨by rfl, ?_⟩) ?_ ?_
                                rotate_left
                                · intro w'
                                  go_simp
                                  with_reducible rfl
                                rotate_left
                                · simp only [Act.put, List.setIfInBounds_toArray, List.set_cons_zero, List.set_cons_succ, i64_w, i32_w]
                                  rfl
                                refine pure_ (i := 26) (N := some 159) (v := ?_) (a' := ?_) #[false, true, true, true, true, true, true, true, true, true, true, true, true, true, true, true, true, true, true, true, true, true, true, true, true, true, true, false, false, false, false] rfl rfl (any_of HT_.out (by kernel_rfl)) (fun _ _ _ h => h) (Or.inl ⟨by rfl, ?_⟩) ?_ ?_
                                rotate_left
                                · intro w'
                                  go_simp
                                  with_reducible rfl
                                rotate_left
                                · simp only [Act.put, List.setIfInBounds_toArray, List.set_cons_zero, List.set_cons_succ, i64_w, i32_w]
                                  rfl
                                refine pure_ (i := 27) (N := some 160) (v := ?_) (a' := ?_) #[false, true, true, true, true, true, true, true, true, true, true, true, true, true, true, true, true, true, true, true, true, true, true, true, true, true, true, true, false, false, false] rfl rfl (any_of HT_.out (by kernel_rfl)) (fun _ _ _ h => h) (Or.inl ⟨by rfl, ?_⟩) ?_ ?_
                                rotate_left
                                · intro w'
                                  go_simp
                                  with_reducible rfl
                                rotate_left
                                · simp only [Act.put, List.setIfInBounds_toArray, List.set_cons_zero, List.set_cons_succ, i64_w, i32_w]
                                  rfl
                                refine pure_ (i := 30) (N := some 163) (v := ?_) (a' := ?_) #[false, true, true, true, true, true, true, true, true, true, true, true, true, true, true, true, true, true, true, true, true, true, true, true, true, true, true, true, false, false, true] rfl rfl (any_of HT_.out (by kernel_rfl)) (fun _ _ _ h => h) (Or.inl ⟨by rfl, ?_⟩) ?_ ?_
                                rotate_left
                                · intro w'
                                  go_simp
                                  with_reducible rfl
                                rotate_left
                                · simp only [Act.put, List.setIfInBounds_toArray, List.set_cons_zero, List.set_cons_succ, i64_w, i32_w]
                                  rfl
                                refine take_ (i := 0) (N := some 133) (v := ?_) (a' := ?_) #[true, true, true, true, true, true, true, true, true, true, true, true, true, true, true, true, true, true, true, true, true, true, true, true, true, true, true, true, false, false, true] rfl rfl (take_ofW HT_.out HW_.out (by kernel_rfl)) (fun _ _ _ h => h) (Or.inl ⟨by rfl, ?_⟩) hHeld ?_ ?_
                                rotate_left
                                · rintro w' ⟨s0, s1⟩
                                  go_simp
                                  with_reducible rfl
                                rotate_left
                                · simp only [Act.put, List.setIfInBounds_toArray, List.set_cons_zero, List.set_cons_succ, i64_w, i32_w]
                                  rfl
                                refine one_ (i := 28) (N := some 161) #[true, true, true, true, true, true, true, true, true, true, true, true, true, true, true, true, true, true, true, true, true, true, true, true, true, true, true, true, true, false, true] rfl rfl (one_of HT_.out (by kernel_rfl)) (by decide) (fun K hK => ?_)
                                refine Kd.R_lit_step k24 _ 24 ?hg (N := 161) ?hd (xs := ([(⟨a2_0, a2_1⟩ : S24), (⟨t262, 0⟩ : S24), (⟨t262, t268⟩ : S24), (⟨t262.extract 0 (t268 : Int).toNat, 0⟩ : S24), (⟨((t262.extract 0 (t268 : Int).toNat) ++ (a4.extract 0 ((ji27) : Int).toNat)) ++ (t262.extract (t268 : Int).toNat t262.size), 0⟩ : S24), (⟨(a4.extract 0 ((ji27) : Int).toNat) ++ t262, ((max (ji27) 0))⟩ : S24), (⟨a4.extract 0 ((ji27) : Int).toNat, 0⟩ : S24)] : List (S24))) (inner := [.string a2_0, .int .i64 a2_1, .string t262, .int .i64 0, .string t262, .int .i64 t268, .string (t262.extract 0 (t268 : Int).toNat), .int .i64 0, .string (((t262.extract 0 (t268 : Int).toNat) ++ (a4.extract 0 ((ji27) : Int).toNat)) ++ (t262.extract (t268 : Int).toNat t262.size)), .int .i64 0, .string ((a4.extract 0 ((ji27) : Int).toNat) ++ t262), .int .i64 ((max (ji27) 0)), .string (a4.extract 0 ((ji27) : Int).toNat), .int .i64 0]) (ok := fun _ => True) (okp := fun _ => True) ?hr ?hp (fun _ hk => hk) trivial (Below.refl _ _) (Nat.le_refl _) (by simp) ?_; (case hd => rfl); (case hg => rfl); (case hr => first | (go_simp; done) | (go_simp; rfl)); (case hp => exact (Reps.c2 (show Kd.M k24 _ _ _ (⟨a2_0, a2_1⟩ : S24) [.string a2_0, .int .i64 a2_1] from (k24_mkM _ _ _ (⟨a2_0, a2_1⟩ : S24) )) (Reps.c2 (show Kd.M k24 _ _ _ (⟨t262, 0⟩ : S24) [.string t262, .int .i64 0] from (k24_mkM _ _ _ (⟨t262, 0⟩ : S24) )) (Reps.c2 (show Kd.M k24 _ _ _ (⟨t262, t268⟩ : S24) [.string t262, .int .i64 t268] from (k24_mkM _ _ _ (⟨t262, t268⟩ : S24) )) (Reps.c2 (show Kd.M k24 _ _ _ (⟨t262.extract 0 (t268 : Int).toNat, 0⟩ : S24) [.string (t262.extract 0 (t268 : Int).toNat), .int .i64 0] from (k24_mkM _ _ _ (⟨t262.extract 0 (t268 : Int).toNat, 0⟩ : S24) )) (Reps.c2 (show Kd.M k24 _ _ _ (⟨((t262.extract 0 (t268 : Int).toNat) ++ (a4.extract 0 ((ji27) : Int).toNat)) ++ (t262.extract (t268 : Int).toNat t262.size), 0⟩ : S24) [.string (((t262.extract 0 (t268 : Int).toNat) ++ (a4.extract 0 ((ji27) : Int).toNat)) ++ (t262.extract (t268 : Int).toNat t262.size)), .int .i64 0] from (k24_mkM _ _ _ (⟨((t262.extract 0 (t268 : Int).toNat) ++ (a4.extract 0 ((ji27) : Int).toNat)) ++ (t262.extract (t268 : Int).toNat t262.size), 0⟩ : S24) )) (Reps.c2 (show Kd.M k24 _ _ _ (⟨(a4.extract 0 ((ji27) : Int).toNat) ++ t262, ((max (ji27) 0))⟩ : S24) [.string ((a4.extract 0 ((ji27) : Int).toNat) ++ t262), .int .i64 ((max (ji27) 0))] from (k24_mkM _ _ _ (⟨(a4.extract 0 ((ji27) : Int).toNat) ++ t262, ((max (ji27) 0))⟩ : S24) )) (Reps.c2 (show Kd.M k24 _ _ _ (⟨a4.extract 0 ((ji27) : Int).toNat, 0⟩ : S24) [.string (a4.extract 0 ((ji27) : Int).toNat), .int .i64 0] from (k24_mkM _ _ _ (⟨a4.extract 0 ((ji27) : Int).toNat, 0⟩ : S24) )) (Reps.none _ _)))))))))
                                intro v270 w61 ho62 hb hg_ hnew_
                                clear hg_ hnew_
                                (first | rw [← Ny269.out] at ho62 | (simp only [Int.reduceToNat] at ho62; rw [← Ny269.out] at ho62))
                                have n0_ := Aside0.mk (Kd.R_below (by (with_reducible repeat (first | apply Kd.R_alloc | apply Kd.R_drewN | apply Kd.R_drew)); exact HO_43.out) hb)
                                have n1_ := Aside0.mk (Kd.R_below (by (with_reducible repeat (first | apply Kd.R_alloc | apply Kd.R_drewN | apply Kd.R_drew)); exact HO259.out) hb)
                                have n2_ := Aside0.mk (Kd.R_lower (Kd.R_newB ho62 (g := gb246) (o := .cells #[.string a2_0, .int .i64 a2_1] 24 (0, 0)) (by (with_reducible repeat (first | refine blk_drewN ?_ _ | refine blk_drew ?_ | refine blk_alloc ?_ _)); exact BK246.out)) (below_size (by repeat (first | (with_reducible first | exact HB.out | apply below_alloc | apply pw_below_drewN | apply below_drew1 | refine below_set ?_ GE246.out) | exact HB.out))))
                                have n3_ := Aside0.mk (blk_below (g := gb246) (o := .cells #[.string a2_0, .int .i64 a2_1] 24 (0, 0)) (by (with_reducible repeat (first | refine blk_drewN ?_ _ | refine blk_drew ?_ | refine blk_alloc ?_ _)); exact BK246.out) hb)
                                have n4_ := Aside0.mk (below_step (by repeat (first | (with_reducible first | exact HB.out | apply below_alloc | apply pw_below_drewN | apply below_drew1 | refine below_set ?_ GE246.out) | exact HB.out)) hb)
                                clear HO_43
                                clear HO259
                                clear BK246
                                clear HB
                                have HO_43 := n0_
                                have HO259 := n1_
                                have HO271 := n2_
                                have BK246 := n3_
                                have HB := n4_
                                clear n0_ n1_ n2_ n3_ n4_
                                clear hb ho62
                                obtain ⟨Ao63, co63, eo63⟩ := Kd.R_slice HO271.out
                                (first | subst eo63 | (injection eo63 with f1_ f2_ f3_; have f4_ := f1_.symm; have f5_ := f3_.symm; clear f1_ f2_ f3_; subst f4_; subst f5_))
                                refine hK.out _ _ ⟨(blk_cell BK246.out 0).trans rfl, (blk_cell BK246.out 1).trans rfl⟩ (fun hHeld => ?_)
                                clear hK K
                                refine norm_ (a' := ?_) ?_ ?_
                                rotate_left
                                · show Act.put _ (some 161) _ = _
                                  simp only [Act.put, List.setIfInBounds_toArray, List.set_cons_zero, List.set_cons_succ, i64_w, i32_w]
                                  rfl
                                refine pure_ (i := 29) (N := some 162) (v := ?_) (a' := ?_) #[true, true, true, true, true, true, true, true, true, true, true, true, true, true, true, true, true, true, true, true, true, true, true, true, true, true, true, true, true, true, true] rfl rfl (any_of HT_.out (by kernel_rfl)) (fun _ _ _ h => h) (Or.inl ⟨by rfl, ?_⟩) ?_ ?_
                                rotate_left
                                · intro w'
                                  go_simp
                                  with_reducible rfl
                                rotate_left
                                · simp only [Act.put, List.setIfInBounds_toArray, List.set_cons_zero, List.set_cons_succ, i64_w, i32_w]
                                  rfl
                                refine done_ (done_of HT_.out (by kernel_rfl)) ?_
                                try go_wp2
                                go_loopg [163] k1 (fun kq v163 w' => ∃ (x163_2 : Int), v163 = .int .i64 x163_2 ∧ Aside0 (columbariumlaw10_CodecTells.l1 kq t247 y269 (y269.length : Int) x163_2 = some r) ∧ Aside0 (kq ≤ k1) ∧ Aside0 (Kd.R k24 24 w' w.heap.size (fun k_ => k_ ≠ gb246) (.slice Ao63 y269.length co63) y269) ∧ Aside0 (w'.heap[gb246]? = some (.cells #[.string a2_0, .int .i64 a2_1] 24 (0, 0))) ∧ Aside0 (Below w.heap.size w w'))
                                case atStart => exact ⟨(0), (by first | rfl | (simp; done) | (simp [*]; done)), H', ⟨Nat.le_refl _⟩, ⟨by (with_reducible repeat (first | apply Kd.R_alloc | apply Kd.R_drewN | apply Kd.R_drew)); exact Kd.R_mono HO271.out (fun _ hk => hk.2)⟩, ⟨by (with_reducible repeat (first | refine blk_drewN ?_ _ | refine blk_drew ?_ | refine blk_alloc ?_ _)); exact BK246.out⟩, ⟨by repeat (first | (with_reducible first | exact HB.out | apply below_alloc | apply pw_below_drewN | apply below_drew1 | refine below_set ?_ GE246.out) | exact HB.out)⟩⟩
                                case round =>
                                  clear H'
                                  try clear c1
                                  try clear c2
                                  try clear p2
                                  try clear q2
                                  try clear hx2
                                  try clear c3
                                  try clear c4
                                  try clear c5
                                  try clear p6
                                  try clear c9
                                  try clear c10
                                  try clear c11
                                  try clear c12
                                  try clear c13
                                  try clear c13b0
                                  try clear c14
                                  try clear c14b0
                                  try clear c15
                                  try clear c15b0
                                  try clear c16
                                  try clear c17
                                  try clear c18
                                  try clear c18b0
                                  try clear c18b1
                                  try clear c19
                                  try clear c19b0
                                  try clear c19b1
                                  try clear c25
                                  try clear c25b0
                                  try clear c25b1
                                  try clear p25
                                  try clear q25
                                  try clear hx25
                                  try clear c26
                                  try clear c26b0
                                  try clear c26b1
                                  try clear c28
                                  try clear c28b0
                                  try clear c28b1
                                  try clear c29
                                  try clear c29b0
                                  try clear c29b1
                                  try clear c32
                                  try clear c32b0
                                  try clear c32b1
                                  try clear c33
                                  try clear c33b0
                                  try clear c33b1
                                  try clear c34
                                  try clear c34b0
                                  try clear c34b1
                                  try clear c35
                                  try clear c44
                                  try clear c44b0
                                  try clear c44b1
                                  try clear c45
                                  try clear c45b0
                                  try clear c45b1
                                  try clear c46
                                  try clear c46b0
                                  try clear c47
                                  try clear c47b0
                                  try clear c48
                                  try clear c48b0
                                  try clear c48b1
                                  try clear c48b2
                                  try clear c49
                                  try clear c49b0
                                  try clear c50
                                  try clear c50b0
                                  try clear c51
                                  try clear c51b0
                                  try clear c51b1
                                  try clear c51b2
                                  try clear c52
                                  try clear c52b0
                                  try clear c52b1
                                  try clear c52b2
                                  try clear hcz42_0
                                  try clear hcz42_1
                                  try clear hcz59_0
                                  try clear hcz59_1
                                  try clear hfz42_0
                                  try clear hfz42_1
                                  try clear hfz59_0
                                  try clear hfz59_1
                                  try clear hx252_0
                                  try clear p2
                                  try clear p252
                                  try clear q252
                                  obtain ⟨x163_2, rfl, HA, HK2, HO_161, BK246, HB⟩ := hrel
                                  cases gk with
                                  | zero => exact absurd HA.out (by simp [columbariumlaw10_CodecTells.l1])
                                  | succ k2 =>
                                    have H := HA.out
                                    clear HA
                                    simp only [columbariumlaw10_CodecTells.l1] at H
                                    by_cases c64 : x163_2 < (y269.length : Int)
                                    · rw [if_pos c64] at H
                                      have c64b0 : decide (x163_2 < (y269.length : Int)) = true := decide_eq_true c64
                                      clear c64
                                      by_cases c65 : 0 ≤ x163_2
                                      · rw [if_pos c65] at H
                                        have c65b0 : decide (0 ≤ x163_2) = true := decide_eq_true c65
                                        clear c65
                                        by_cases c66 : x163_2 < (y269.length : Int)
                                        · rw [if_pos c66] at H
                                          have c66b0 : decide (x163_2 < (y269.length : Int)) = true := decide_eq_true c66
                                          clear c66
                                          replace H := Option.bind_eq_some_iff.mp H
                                          obtain ⟨⟨t274, t275, t276, t277⟩, A670, H⟩ := H
                                          replace H : ((columbariumref10_TakeNumber.f k2 ((rd_T24 y269 x163_2).f0) ((rd_T24 y269 x163_2).f1)).bind fun bt279 => (if t274 = bt279.1 then (if (!(t275.toList == bt279.2.1.toList) || (!(t276 == bt279.2.2.1))) = true then (none) else (if t277 = bt279.2.2.2 then ((codec_End.f ((rd_T24 y269 x163_2).f0) ((rd_T24 y269 x163_2).f1)).bind fun t284 => ((columbariumref10_End.f ((rd_T24 y269 x163_2).f0) ((rd_T24 y269 x163_2).f1)).bind fun t285 => (if t284 = t285 then ((codec_TakeText.f k2 ((rd_T24 y269 x163_2).f0) ((rd_T24 y269 x163_2).f1)).bind fun bt286 => ((columbariumref10_TakeText.f k2 ((rd_T24 y269 x163_2).f0) ((rd_T24 y269 x163_2).f1)).bind fun bt290 => (if bt286.1.toList = bt290.1.toList then (if (!(bt286.2.1.toList == bt290.2.1.toList) || (!(bt286.2.2.1 == bt290.2.2.1))) = true then (none) else (if bt286.2.2.2 = bt290.2.2.2 then ((codec_TakeList.f k2 ((rd_T24 y269 x163_2).f0) ((rd_T24 y269 x163_2).f1)).bind fun bt294 => ((columbariumref10_TakeList.f k2 ((rd_T24 y269 x163_2).f0) ((rd_T24 y269 x163_2).f1)).bind fun bt300 => ((columbariumref10_Texts.f k2 bt294.1 bt300.1).bind fun t306 => (if t306 = true then (if (!(bt294.2.1.toList == bt300.2.1.toList) || (!(bt294.2.2.1 == bt300.2.2.1))) = true then (none) else (if bt294.2.2.2 = bt300.2.2.2 then (columbariumlaw10_CodecTells.l1 k2 t247 y269 (y269.length : Int) (wrap64 (x163_2 + 1))) else (none))) else (none))))) else (none))) else (none)))) else (none)))) else (none))) else (none))) = some r := H
                                          have A67 := Aside0.mk A670
                                          clear A670
                                          replace H := Option.bind_eq_some_iff.mp H
                                          obtain ⟨⟨t279, t280, t281, t282⟩, A680, H⟩ := H
                                          replace H : (if t274 = t279 then (if (!(t275.toList == t280.toList) || (!(t276 == t281))) = true then (none) else (if t277 = t282 then ((codec_End.f ((rd_T24 y269 x163_2).f0) ((rd_T24 y269 x163_2).f1)).bind fun t284 => ((columbariumref10_End.f ((rd_T24 y269 x163_2).f0) ((rd_T24 y269 x163_2).f1)).bind fun t285 => (if t284 = t285 then ((codec_TakeText.f k2 ((rd_T24 y269 x163_2).f0) ((rd_T24 y269 x163_2).f1)).bind fun bt286 => ((columbariumref10_TakeText.f k2 ((rd_T24 y269 x163_2).f0) ((rd_T24 y269 x163_2).f1)).bind fun bt290 => (if bt286.1.toList = bt290.1.toList then (if (!(bt286.2.1.toList == bt290.2.1.toList) || (!(bt286.2.2.1 == bt290.2.2.1))) = true then (none) else (if bt286.2.2.2 = bt290.2.2.2 then ((codec_TakeList.f k2 ((rd_T24 y269 x163_2).f0) ((rd_T24 y269 x163_2).f1)).bind fun bt294 => ((columbariumref10_TakeList.f k2 ((rd_T24 y269 x163_2).f0) ((rd_T24 y269 x163_2).f1)).bind fun bt300 => ((columbariumref10_Texts.f k2 bt294.1 bt300.1).bind fun t306 => (if t306 = true then (if (!(bt294.2.1.toList == bt300.2.1.toList) || (!(bt294.2.2.1 == bt300.2.2.1))) = true then (none) else (if bt294.2.2.2 = bt300.2.2.2 then (columbariumlaw10_CodecTells.l1 k2 t247 y269 (y269.length : Int) (wrap64 (x163_2 + 1))) else (none))) else (none))))) else (none))) else (none)))) else (none)))) else (none))) else (none)) = some r := H
                                          have A68 := Aside0.mk A680
                                          clear A680
                                          by_cases c69 : t274 = t279
                                          · rw [if_pos c69] at H
                                            have c69b0 : (t274 == t279) = true := beq_iff_eq.mpr c69
                                            have c69b1 : (t274 != t279) = false := bne_eq_false_iff_eq.mpr c69
                                            clear c69
                                            by_cases c70 : (!(t275.toList == t280.toList) || (!(t276 == t281))) = true
                                            · rw [if_pos c70] at H
                                              have c70b0 : (!(t275.toList == t280.toList) || (!(t276 == t281))) = true := c70
                                              clear c70
                                              exact absurd H (by simp)
                                            · rw [if_neg c70] at H
                                              have c70b0 : (!(t275.toList == t280.toList) || (!(t276 == t281))) = false := by simpa using c70
                                              clear c70
                                              by_cases c71 : t277 = t282
                                              · rw [if_pos c71] at H
                                                have c71b0 : (t277 == t282) = true := beq_iff_eq.mpr c71
                                                have c71b1 : (t277 != t282) = false := bne_eq_false_iff_eq.mpr c71
                                                clear c71
                                                replace H := Option.bind_eq_some_iff.mp H
                                                obtain ⟨t284, A720, H⟩ := H
                                                replace H : ((columbariumref10_End.f ((rd_T24 y269 x163_2).f0) ((rd_T24 y269 x163_2).f1)).bind fun t285 => (if t284 = t285 then ((codec_TakeText.f k2 ((rd_T24 y269 x163_2).f0) ((rd_T24 y269 x163_2).f1)).bind fun bt286 => ((columbariumref10_TakeText.f k2 ((rd_T24 y269 x163_2).f0) ((rd_T24 y269 x163_2).f1)).bind fun bt290 => (if bt286.1.toList = bt290.1.toList then (if (!(bt286.2.1.toList == bt290.2.1.toList) || (!(bt286.2.2.1 == bt290.2.2.1))) = true then (none) else (if bt286.2.2.2 = bt290.2.2.2 then ((codec_TakeList.f k2 ((rd_T24 y269 x163_2).f0) ((rd_T24 y269 x163_2).f1)).bind fun bt294 => ((columbariumref10_TakeList.f k2 ((rd_T24 y269 x163_2).f0) ((rd_T24 y269 x163_2).f1)).bind fun bt300 => ((columbariumref10_Texts.f k2 bt294.1 bt300.1).bind fun t306 => (if t306 = true then (if (!(bt294.2.1.toList == bt300.2.1.toList) || (!(bt294.2.2.1 == bt300.2.2.1))) = true then (none) else (if bt294.2.2.2 = bt300.2.2.2 then (columbariumlaw10_CodecTells.l1 k2 t247 y269 (y269.length : Int) (wrap64 (x163_2 + 1))) else (none))) else (none))))) else (none))) else (none)))) else (none))) = some r := H
                                                have A72 := Aside0.mk A720
                                                clear A720
                                                replace H := Option.bind_eq_some_iff.mp H
                                                obtain ⟨t285, A730, H⟩ := H
                                                replace H : (if t284 = t285 then ((codec_TakeText.f k2 ((rd_T24 y269 x163_2).f0) ((rd_T24 y269 x163_2).f1)).bind fun bt286 => ((columbariumref10_TakeText.f k2 ((rd_T24 y269 x163_2).f0) ((rd_T24 y269 x163_2).f1)).bind fun bt290 => (if bt286.1.toList = bt290.1.toList then (if (!(bt286.2.1.toList == bt290.2.1.toList) || (!(bt286.2.2.1 == bt290.2.2.1))) = true then (none) else (if bt286.2.2.2 = bt290.2.2.2 then ((codec_TakeList.f k2 ((rd_T24 y269 x163_2).f0) ((rd_T24 y269 x163_2).f1)).bind fun bt294 => ((columbariumref10_TakeList.f k2 ((rd_T24 y269 x163_2).f0) ((rd_T24 y269 x163_2).f1)).bind fun bt300 => ((columbariumref10_Texts.f k2 bt294.1 bt300.1).bind fun t306 => (if t306 = true then (if (!(bt294.2.1.toList == bt300.2.1.toList) || (!(bt294.2.2.1 == bt300.2.2.1))) = true then (none) else (if bt294.2.2.2 = bt300.2.2.2 then (columbariumlaw10_CodecTells.l1 k2 t247 y269 (y269.length : Int) (wrap64 (x163_2 + 1))) else (none))) else (none))))) else (none))) else (none)))) else (none)) = some r := H
                                                have A73 := Aside0.mk A730
                                                clear A730
                                                by_cases c74 : t284 = t285
                                                · rw [if_pos c74] at H
                                                  have c74b0 : (t284 == t285) = true := beq_iff_eq.mpr c74
                                                  have c74b1 : (t284 != t285) = false := bne_eq_false_iff_eq.mpr c74
                                                  clear c74
                                                  replace H := Option.bind_eq_some_iff.mp H
                                                  obtain ⟨⟨t286, t287, t288, t289⟩, A750, H⟩ := H
                                                  replace H : ((columbariumref10_TakeText.f k2 ((rd_T24 y269 x163_2).f0) ((rd_T24 y269 x163_2).f1)).bind fun bt290 => (if t286.toList = bt290.1.toList then (if (!(t287.toList == bt290.2.1.toList) || (!(t288 == bt290.2.2.1))) = true then (none) else (if t289 = bt290.2.2.2 then ((codec_TakeList.f k2 ((rd_T24 y269 x163_2).f0) ((rd_T24 y269 x163_2).f1)).bind fun bt294 => ((columbariumref10_TakeList.f k2 ((rd_T24 y269 x163_2).f0) ((rd_T24 y269 x163_2).f1)).bind fun bt300 => ((columbariumref10_Texts.f k2 bt294.1 bt300.1).bind fun t306 => (if t306 = true then (if (!(bt294.2.1.toList == bt300.2.1.toList) || (!(bt294.2.2.1 == bt300.2.2.1))) = true then (none) else (if bt294.2.2.2 = bt300.2.2.2 then (columbariumlaw10_CodecTells.l1 k2 t247 y269 (y269.length : Int) (wrap64 (x163_2 + 1))) else (none))) else (none))))) else (none))) else (none))) = some r := H
                                                  have A75 := Aside0.mk A750
                                                  clear A750
                                                  replace H := Option.bind_eq_some_iff.mp H
                                                  obtain ⟨⟨t290, t291, t292, t293⟩, A760, H⟩ := H
                                                  replace H : (if t286.toList = t290.toList then (if (!(t287.toList == t291.toList) || (!(t288 == t292))) = true then (none) else (if t289 = t293 then ((codec_TakeList.f k2 ((rd_T24 y269 x163_2).f0) ((rd_T24 y269 x163_2).f1)).bind fun bt294 => ((columbariumref10_TakeList.f k2 ((rd_T24 y269 x163_2).f0) ((rd_T24 y269 x163_2).f1)).bind fun bt300 => ((columbariumref10_Texts.f k2 bt294.1 bt300.1).bind fun t306 => (if t306 = true then (if (!(bt294.2.1.toList == bt300.2.1.toList) || (!(bt294.2.2.1 == bt300.2.2.1))) = true then (none) else (if bt294.2.2.2 = bt300.2.2.2 then (columbariumlaw10_CodecTells.l1 k2 t247 y269 (y269.length : Int) (wrap64 (x163_2 + 1))) else (none))) else (none))))) else (none))) else (none)) = some r := H
                                                  have A76 := Aside0.mk A760
                                                  clear A760
                                                  by_cases c77 : t286.toList = t290.toList
                                                  · rw [if_pos c77] at H
                                                    have c77b0 : (t286.toList == t290.toList) = true := beq_iff_eq.mpr c77
                                                    have c77b1 : (t286.toList != t290.toList) = false := bne_eq_false_iff_eq.mpr c77
                                                    clear c77
                                                    by_cases c78 : (!(t287.toList == t291.toList) || (!(t288 == t292))) = true
                                                    · rw [if_pos c78] at H
                                                      exact absurd H (by simp)
                                                    · rw [if_neg c78] at H
                                                      have c78b0 : (!(t287.toList == t291.toList) || (!(t288 == t292))) = false := by simpa using c78
                                                      clear c78
                                                      by_cases c79 : t289 = t293
                                                      · rw [if_pos c79] at H
                                                        have c79b0 : (t289 == t293) = true := beq_iff_eq.mpr c79
                                                        have c79b1 : (t289 != t293) = false := bne_eq_false_iff_eq.mpr c79
                                                        clear c79
                                                        replace H := Option.bind_eq_some_iff.mp H
                                                        obtain ⟨⟨t294, t297, t298, t299⟩, A800, H⟩ := H
                                                        replace H : ((columbariumref10_TakeList.f k2 ((rd_T24 y269 x163_2).f0) ((rd_T24 y269 x163_2).f1)).bind fun bt300 => ((columbariumref10_Texts.f k2 t294 bt300.1).bind fun t306 => (if t306 = true then (if (!(t297.toList == bt300.2.1.toList) || (!(t298 == bt300.2.2.1))) = true then (none) else (if t299 = bt300.2.2.2 then (columbariumlaw10_CodecTells.l1 k2 t247 y269 (y269.length : Int) (wrap64 (x163_2 + 1))) else (none))) else (none)))) = some r := H
                                                        have A80 := Aside0.mk A800
                                                        clear A800
                                                        replace H := Option.bind_eq_some_iff.mp H
                                                        obtain ⟨⟨t300, t303, t304, t305⟩, A810, H⟩ := H
                                                        replace H : ((columbariumref10_Texts.f k2 t294 t300).bind fun t306 => (if t306 = true then (if (!(t297.toList == t303.toList) || (!(t298 == t304))) = true then (none) else (if t299 = t305 then (columbariumlaw10_CodecTells.l1 k2 t247 y269 (y269.length : Int) (wrap64 (x163_2 + 1))) else (none))) else (none))) = some r := H
                                                        have A81 := Aside0.mk A810
                                                        clear A810
                                                        replace H := Option.bind_eq_some_iff.mp H
                                                        obtain ⟨t306, A820, H⟩ := H
                                                        replace H : (if t306 = true then (if (!(t297.toList == t303.toList) || (!(t298 == t304))) = true then (none) else (if t299 = t305 then (columbariumlaw10_CodecTells.l1 k2 t247 y269 (y269.length : Int) (wrap64 (x163_2 + 1))) else (none))) else (none)) = some r := H
                                                        have A82 := Aside0.mk A820
                                                        clear A820
                                                        by_cases c83 : t306 = true
                                                        · subst c83
                                                          have H1 : (if (!(t297.toList == t303.toList) || (!(t298 == t304))) = true then (none) else (if t299 = t305 then (columbariumlaw10_CodecTells.l1 k2 t247 y269 (y269.length : Int) (wrap64 (x163_2 + 1))) else (none))) = some r := by rw [if_pos rfl] at H; exact H
                                                          clear H
                                                          have H := H1
                                                          clear H1
                                                          by_cases c84 : (!(t297.toList == t303.toList) || (!(t298 == t304))) = true
                                                          · rw [if_pos c84] at H
                                                            exact absurd H (by simp)
                                                          · rw [if_neg c84] at H
                                                            have c84b0 : (!(t297.toList == t303.toList) || (!(t298 == t304))) = false := by simpa using c84
                                                            clear c84
                                                            by_cases c85 : t299 = t305
                                                            · rw [if_pos c85] at H
                                                              have c85b0 : (t299 == t305) = true := beq_iff_eq.mpr c85
                                                              have c85b1 : (t299 != t305) = false := bne_eq_false_iff_eq.mpr c85
                                                              clear c85
                                                              have H' := Aside0.mk H
                                                              clear H
                                                              have p272 : 0 ≤ (x163_2 : Int) := of_decide_eq_true (by first | (with_reducible assumption) | assumption)
                                                              have q272 : x163_2 < (y269.length : Int) := of_decide_eq_true (by first | (with_reducible assumption) | assumption)
                                                              obtain ⟨ad272, e272, hx272_0, hx272_1⟩ := at_T24 (Kd.R_reads' HO_161.out).2.2 x163_2 p272 q272
                                                              cases e272
                                                              replace p272 := eq_true p272
                                                              replace q272 := eq_true q272
                                                              try go_wp2_with (first | ((with_reducible refine gate_dst (N := 28) rfl ?_); (try (refine gate_guard (by rfl) ?_; dsimp only)); refine box_event ?hg (N := 28) ?hd (cs := #[.string (⟨#[]⟩ : ByteArray), .int .i64 0]) (t := 24) ?hr ?_; (case hd => rfl); (case hg => rfl); (case hr => first | (go_simp; done) | (go_simp; rfl)); intro gb273 hg w86 hbox hb; have n0_ := Aside0.mk (Kd.R_below (Kd.R_elderB (by (with_reducible repeat (first | apply Kd.R_alloc | apply Kd.R_drewN | apply Kd.R_drew)); exact HO_161.out) gb273 (Nat.le_of_eq hg.symm)) hb); have n1_ := Aside0.mk (blk_below (g := gb246) (o := .cells #[.string a2_0, .int .i64 a2_1] 24 (0, 0)) (by (with_reducible repeat (first | refine blk_drewN ?_ _ | refine blk_drew ?_ | refine blk_alloc ?_ _)); exact BK246.out) hb); have n2_ := Aside0.mk (below_step (by repeat (first | (with_reducible first | exact HB.out | apply below_alloc | apply pw_below_drewN | apply below_drew1 | refine below_set ?_ GE246.out) | exact HB.out)) hb); have n3_ := Aside0.mk (hbox); have n4_ := Aside0.mk ((by rw [hg]; exact (below_size (by repeat (first | (with_reducible first | exact HB.out | apply below_alloc | apply pw_below_drewN | apply below_drew1 | refine below_set ?_ GE246.out) | exact HB.out))) : w.heap.size ≤ gb273)); have n5_ := Aside0.mk ((by rw [hg]; exact (below_size (by repeat (first | (with_reducible first | exact HB.out | apply below_alloc | apply pw_below_drewN | apply below_drew1 | refine below_set ?_ GE246.out) | exact HB.out))) : w.heap.size ≤ gb273)); have n6_ := Aside0.mk ((by rw [hg]; exact Nat.ne_of_lt (blk_lt (g := gb246) (o := .cells #[.string a2_0, .int .i64 a2_1] 24 (0, 0)) (by (with_reducible repeat (first | refine blk_drewN ?_ _ | refine blk_drew ?_ | refine blk_alloc ?_ _)); exact BK246.out)) : gb246 ≠ gb273)); have n7_ := Aside0.mk ((by rw [hg]; exact Nat.ne_of_gt (blk_lt (g := gb246) (o := .cells #[.string a2_0, .int .i64 a2_1] 24 (0, 0)) (by (with_reducible repeat (first | refine blk_drewN ?_ _ | refine blk_drew ?_ | refine blk_alloc ?_ _)); exact BK246.out)) : gb273 ≠ gb246)); clear HO_161; clear BK246; clear HB; have HO_161 := n0_; have BK246 := n1_; have HB := n2_; have BK273 := n3_; have GW273 := n4_; have GE273 := n5_; have NB246_273 := n6_; have NB273_246 := n7_; clear n0_ n1_ n2_ n3_ n4_ n5_ n6_ n7_; clear hb hbox hg; have hnb87 := NB273_246.out; have hnc87 := NB246_273.out; have hcz88_0 : w86.cell? ⟨gb273, 0, none⟩ = some (.string (⟨#[]⟩ : ByteArray)) := (blk_cell BK273.out 0).trans rfl; have hcz88_1 : w86.cell? ⟨gb273, 1, none⟩ = some (.int .i64 0) := (blk_cell BK273.out 1).trans rfl; have hfz88_0 := blk_frozen BK273.out 0; have hfz88_1 := blk_frozen BK273.out 1) | ((with_reducible refine gate_callee (f := 18) rfl ?_); refine goesL_ (some 169) rfl rfl Try.func18 (by kernel_rfl) rfl #[.agg #[.string ((rd_T24 y269 x163_2).f0), .int .i64 ((rd_T24 y269 x163_2).f1)]] rfl (by (try simp only [List.map_toArray, List.map_cons, List.map_nil]); first | done | rfl | (simp only [List.length_drop, List.length_take]; rfl)) ?_; (with_reducible refine (codec_TakeNumber.calls k2 ((rd_T24 y269 x163_2).f0) ((rd_T24 y269 x163_2).f1) t274 t275 t276 t277 _ A67.out).mono ?_); rintro e w89 ⟨rfl, hb⟩; refine ⟨_, rfl, ?_⟩; have n0_ := Aside0.mk (Kd.R_below (by (with_reducible repeat (first | apply Kd.R_alloc | apply Kd.R_drewN | apply Kd.R_drew)); exact (Kd.R_mono (Kd.R_far (p := ⟨gb273, 1, none⟩) (Kd.R_far (p := ⟨gb273, 0, none⟩) (Kd.R_mono HO_161.out (fun k_ hk => (⟨hk, hk.2⟩ : _ ∧ k_ ≠ gb273))) (fun _ hk => hk.2) (.string ((rd_T24 y269 x163_2).f0))) (fun _ hk => hk.2) (.int .i64 ((rd_T24 y269 x163_2).f1))) (fun _ h_ => h_.1))) hb); have n1_ := Aside0.mk (blk_below (g := gb246) (o := .cells #[.string a2_0, .int .i64 a2_1] 24 (0, 0)) (by (with_reducible repeat (first | refine blk_drewN ?_ _ | refine blk_drew ?_ | refine blk_alloc ?_ _)); refine blk_far ?_ NB246_273.out _; (with_reducible repeat (first | refine blk_drewN ?_ _ | refine blk_drew ?_ | refine blk_alloc ?_ _)); refine blk_far ?_ NB246_273.out _; (with_reducible repeat (first | refine blk_drewN ?_ _ | refine blk_drew ?_ | refine blk_alloc ?_ _)); exact BK246.out) hb); have n2_ := Aside0.mk (blk_below (g := gb273) (o := .cells #[.string ((rd_T24 y269 x163_2).f0), .int .i64 ((rd_T24 y269 x163_2).f1)] 24 (0, 0)) (by (with_reducible repeat (first | refine blk_drewN ?_ _ | refine blk_drew ?_ | refine blk_alloc ?_ _)); refine blk_put (cs := #[.string ((rd_T24 y269 x163_2).f0), .int .i64 0]) ?_ 1 _ rfl; (with_reducible repeat (first | refine blk_drewN ?_ _ | refine blk_drew ?_ | refine blk_alloc ?_ _)); refine blk_put (cs := #[.string (⟨#[]⟩ : ByteArray), .int .i64 0]) ?_ 0 _ rfl; (with_reducible repeat (first | refine blk_drewN ?_ _ | refine blk_drew ?_ | refine blk_alloc ?_ _)); exact BK273.out) hb); have n3_ := Aside0.mk (below_step (by repeat (first | (with_reducible first | exact HB.out | apply below_alloc | apply pw_below_drewN | apply below_drew1 | refine below_set ?_ GE246.out | refine below_set ?_ GE273.out) | exact HB.out)) hb); clear HO_161; clear BK246; clear BK273; clear HB; have HO_161 := n0_; have BK246 := n1_; have BK273 := n2_; have HB := n3_; clear n0_ n1_ n2_ n3_; (try clear hb); (try clear hb2); (try clear hk); (try clear hi)) | ((with_reducible refine gate_dst (N := 30) rfl ?_); (try (refine gate_guard (by rfl) ?_; dsimp only)); refine box_event ?hg (N := 30) ?hd (cs := #[.string (⟨#[]⟩ : ByteArray), .int .i64 0]) (t := 24) ?hr ?_; (case hd => rfl); (case hg => rfl); (case hr => first | (go_simp; done) | (go_simp; rfl)); intro gb278 hg w90 hbox hb; have n0_ := Aside0.mk (Kd.R_below (Kd.R_elderB (by (with_reducible repeat (first | apply Kd.R_alloc | apply Kd.R_drewN | apply Kd.R_drew)); exact HO_161.out) gb278 (Nat.le_of_eq hg.symm)) hb); have n1_ := Aside0.mk (blk_below (g := gb246) (o := .cells #[.string a2_0, .int .i64 a2_1] 24 (0, 0)) (by (with_reducible repeat (first | refine blk_drewN ?_ _ | refine blk_drew ?_ | refine blk_alloc ?_ _)); exact BK246.out) hb); have n2_ := Aside0.mk (blk_below (g := gb273) (o := .cells #[.string ((rd_T24 y269 x163_2).f0), .int .i64 ((rd_T24 y269 x163_2).f1)] 24 (0, 0)) (by (with_reducible repeat (first | refine blk_drewN ?_ _ | refine blk_drew ?_ | refine blk_alloc ?_ _)); exact BK273.out) hb); have n3_ := Aside0.mk (below_step (by repeat (first | (with_reducible first | exact HB.out | apply below_alloc | apply pw_below_drewN | apply below_drew1 | refine below_set ?_ GE246.out | refine below_set ?_ GE273.out) | exact HB.out)) hb); have n4_ := Aside0.mk (hbox); have n5_ := Aside0.mk ((by rw [hg]; exact (below_size (by repeat (first | (with_reducible first | exact HB.out | apply below_alloc | apply pw_below_drewN | apply below_drew1 | refine below_set ?_ GE246.out | refine below_set ?_ GE273.out) | exact HB.out))) : w.heap.size ≤ gb278)); have n6_ := Aside0.mk ((by rw [hg]; exact (below_size (by repeat (first | (with_reducible first | exact HB.out | apply below_alloc | apply pw_below_drewN | apply below_drew1 | refine below_set ?_ GE246.out | refine below_set ?_ GE273.out) | exact HB.out))) : w.heap.size ≤ gb278)); have n7_ := Aside0.mk ((by rw [hg]; exact Nat.ne_of_lt (blk_lt (g := gb246) (o := .cells #[.string a2_0, .int .i64 a2_1] 24 (0, 0)) (by (with_reducible repeat (first | refine blk_drewN ?_ _ | refine blk_drew ?_ | refine blk_alloc ?_ _)); exact BK246.out)) : gb246 ≠ gb278)); have n8_ := Aside0.mk ((by rw [hg]; exact Nat.ne_of_gt (blk_lt (g := gb246) (o := .cells #[.string a2_0, .int .i64 a2_1] 24 (0, 0)) (by (with_reducible repeat (first | refine blk_drewN ?_ _ | refine blk_drew ?_ | refine blk_alloc ?_ _)); exact BK246.out)) : gb278 ≠ gb246)); have n9_ := Aside0.mk ((by rw [hg]; exact Nat.ne_of_lt (blk_lt (g := gb273) (o := .cells #[.string ((rd_T24 y269 x163_2).f0), .int .i64 ((rd_T24 y269 x163_2).f1)] 24 (0, 0)) (by (with_reducible repeat (first | refine blk_drewN ?_ _ | refine blk_drew ?_ | refine blk_alloc ?_ _)); exact BK273.out)) : gb273 ≠ gb278)); have n10_ := Aside0.mk ((by rw [hg]; exact Nat.ne_of_gt (blk_lt (g := gb273) (o := .cells #[.string ((rd_T24 y269 x163_2).f0), .int .i64 ((rd_T24 y269 x163_2).f1)] 24 (0, 0)) (by (with_reducible repeat (first | refine blk_drewN ?_ _ | refine blk_drew ?_ | refine blk_alloc ?_ _)); exact BK273.out)) : gb278 ≠ gb273)); clear HO_161; clear BK246; clear BK273; clear HB; have HO_161 := n0_; have BK246 := n1_; have BK273 := n2_; have HB := n3_; have BK278 := n4_; have GW278 := n5_; have GE278 := n6_; have NB246_278 := n7_; have NB278_246 := n8_; have NB273_278 := n9_; have NB278_273 := n10_; clear n0_ n1_ n2_ n3_ n4_ n5_ n6_ n7_ n8_ n9_ n10_; clear hb hbox hg; have hnb91 := NB278_246.out; have hnc91 := NB246_278.out; have hnb92 := NB278_273.out; have hnc92 := NB273_278.out; have hcz93_0 : w90.cell? ⟨gb278, 0, none⟩ = some (.string (⟨#[]⟩ : ByteArray)) := (blk_cell BK278.out 0).trans rfl; have hcz93_1 : w90.cell? ⟨gb278, 1, none⟩ = some (.int .i64 0) := (blk_cell BK278.out 1).trans rfl; have hfz93_0 := blk_frozen BK278.out 0; have hfz93_1 := blk_frozen BK278.out 1; have hcz94_0 : w90.cell? ⟨gb273, 0, none⟩ = some (.string ((rd_T24 y269 x163_2).f0)) := (blk_cell BK273.out 0).trans rfl; have hcz94_1 : w90.cell? ⟨gb273, 1, none⟩ = some (.int .i64 ((rd_T24 y269 x163_2).f1)) := (blk_cell BK273.out 1).trans rfl; have hfz94_0 := blk_frozen BK273.out 0; have hfz94_1 := blk_frozen BK273.out 1) | ((with_reducible refine gate_callee (f := 19) rfl ?_); refine goesL_ (some 175) rfl rfl Try.func19 (by kernel_rfl) rfl #[.agg #[.string ((rd_T24 y269 x163_2).f0), .int .i64 ((rd_T24 y269 x163_2).f1)]] rfl (by (try simp only [List.map_toArray, List.map_cons, List.map_nil]); first | done | rfl | (simp only [List.length_drop, List.length_take]; rfl)) ?_; (with_reducible refine (columbariumref10_TakeNumber.calls k2 ((rd_T24 y269 x163_2).f0) ((rd_T24 y269 x163_2).f1) t279 t280 t281 t282 _ A68.out).mono ?_); rintro e w95 ⟨rfl, hb⟩; refine ⟨_, rfl, ?_⟩; have n0_ := Aside0.mk (Kd.R_below (by (with_reducible repeat (first | apply Kd.R_alloc | apply Kd.R_drewN | apply Kd.R_drew)); exact (Kd.R_mono (Kd.R_far (p := ⟨gb278, 1, none⟩) (Kd.R_far (p := ⟨gb278, 0, none⟩) (Kd.R_mono HO_161.out (fun k_ hk => (⟨hk, hk.2⟩ : _ ∧ k_ ≠ gb278))) (fun _ hk => hk.2) (.string t275)) (fun _ hk => hk.2) (.int .i64 t276)) (fun _ h_ => h_.1))) hb); have n1_ := Aside0.mk (blk_below (g := gb246) (o := .cells #[.string a2_0, .int .i64 a2_1] 24 (0, 0)) (by (with_reducible repeat (first | refine blk_drewN ?_ _ | refine blk_drew ?_ | refine blk_alloc ?_ _)); refine blk_far ?_ NB246_278.out _; (with_reducible repeat (first | refine blk_drewN ?_ _ | refine blk_drew ?_ | refine blk_alloc ?_ _)); refine blk_far ?_ NB246_278.out _; (with_reducible repeat (first | refine blk_drewN ?_ _ | refine blk_drew ?_ | refine blk_alloc ?_ _)); exact BK246.out) hb); have n2_ := Aside0.mk (blk_below (g := gb273) (o := .cells #[.string ((rd_T24 y269 x163_2).f0), .int .i64 ((rd_T24 y269 x163_2).f1)] 24 (0, 0)) (by (with_reducible repeat (first | refine blk_drewN ?_ _ | refine blk_drew ?_ | refine blk_alloc ?_ _)); refine blk_far ?_ NB273_278.out _; (with_reducible repeat (first | refine blk_drewN ?_ _ | refine blk_drew ?_ | refine blk_alloc ?_ _)); refine blk_far ?_ NB273_278.out _; (with_reducible repeat (first | refine blk_drewN ?_ _ | refine blk_drew ?_ | refine blk_alloc ?_ _)); exact BK273.out) hb); have n3_ := Aside0.mk (blk_below (g := gb278) (o := .cells #[.string t275, .int .i64 t276] 24 (0, 0)) (by (with_reducible repeat (first | refine blk_drewN ?_ _ | refine blk_drew ?_ | refine blk_alloc ?_ _)); refine blk_put (cs := #[.string t275, .int .i64 0]) ?_ 1 _ rfl; (with_reducible repeat (first | refine blk_drewN ?_ _ | refine blk_drew ?_ | refine blk_alloc ?_ _)); refine blk_put (cs := #[.string (⟨#[]⟩ : ByteArray), .int .i64 0]) ?_ 0 _ rfl; (with_reducible repeat (first | refine blk_drewN ?_ _ | refine blk_drew ?_ | refine blk_alloc ?_ _)); exact BK278.out) hb); have n4_ := Aside0.mk (below_step (by repeat (first | (with_reducible first | exact HB.out | apply below_alloc | apply pw_below_drewN | apply below_drew1 | refine below_set ?_ GE246.out | refine below_set ?_ GE273.out | refine below_set ?_ GE278.out) | exact HB.out)) hb); clear HO_161; clear BK246; clear BK273; clear BK278; clear HB; have HO_161 := n0_; have BK246 := n1_; have BK273 := n2_; have BK278 := n3_; have HB := n4_; clear n0_ n1_ n2_ n3_ n4_; (try clear hb); (try clear hb2); (try clear hk); (try clear hi)) | ((with_reducible refine gate_dst (N := 33) rfl ?_); (try (refine gate_guard (by rfl) ?_; dsimp only)); refine box_event ?hg (N := 33) ?hd (cs := #[.string (⟨#[]⟩ : ByteArray), .int .i64 0]) (t := 24) ?hr ?_; (case hd => rfl); (case hg => rfl); (case hr => first | (go_simp; done) | (go_simp; rfl)); intro gb283 hg w96 hbox hb; have n0_ := Aside0.mk (Kd.R_below (Kd.R_elderB (by (with_reducible repeat (first | apply Kd.R_alloc | apply Kd.R_drewN | apply Kd.R_drew)); exact HO_161.out) gb283 (Nat.le_of_eq hg.symm)) hb); have n1_ := Aside0.mk (blk_below (g := gb246) (o := .cells #[.string a2_0, .int .i64 a2_1] 24 (0, 0)) (by (with_reducible repeat (first | refine blk_drewN ?_ _ | refine blk_drew ?_ | refine blk_alloc ?_ _)); exact BK246.out) hb); have n2_ := Aside0.mk (blk_below (g := gb273) (o := .cells #[.string ((rd_T24 y269 x163_2).f0), .int .i64 ((rd_T24 y269 x163_2).f1)] 24 (0, 0)) (by (with_reducible repeat (first | refine blk_drewN ?_ _ | refine blk_drew ?_ | refine blk_alloc ?_ _)); exact BK273.out) hb); have n3_ := Aside0.mk (blk_below (g := gb278) (o := .cells #[.string t275, .int .i64 t276] 24 (0, 0)) (by (with_reducible repeat (first | refine blk_drewN ?_ _ | refine blk_drew ?_ | refine blk_alloc ?_ _)); exact BK278.out) hb); have n4_ := Aside0.mk (below_step (by repeat (first | (with_reducible first | exact HB.out | apply below_alloc | apply pw_below_drewN | apply below_drew1 | refine below_set ?_ GE246.out | refine below_set ?_ GE273.out | refine below_set ?_ GE278.out) | exact HB.out)) hb); have n5_ := Aside0.mk (hbox); have n6_ := Aside0.mk ((by rw [hg]; exact (below_size (by repeat (first | (with_reducible first | exact HB.out | apply below_alloc | apply pw_below_drewN | apply below_drew1 | refine below_set ?_ GE246.out | refine below_set ?_ GE273.out | refine below_set ?_ GE278.out) | exact HB.out))) : w.heap.size ≤ gb283)); have n7_ := Aside0.mk ((by rw [hg]; exact (below_size (by repeat (first | (with_reducible first | exact HB.out | apply below_alloc | apply pw_below_drewN | apply below_drew1 | refine below_set ?_ GE246.out | refine below_set ?_ GE273.out | refine below_set ?_ GE278.out) | exact HB.out))) : w.heap.size ≤ gb283)); have n8_ := Aside0.mk ((by rw [hg]; exact Nat.ne_of_lt (blk_lt (g := gb246) (o := .cells #[.string a2_0, .int .i64 a2_1] 24 (0, 0)) (by (with_reducible repeat (first | refine blk_drewN ?_ _ | refine blk_drew ?_ | refine blk_alloc ?_ _)); exact BK246.out)) : gb246 ≠ gb283)); have n9_ := Aside0.mk ((by rw [hg]; exact Nat.ne_of_gt (blk_lt (g := gb246) (o := .cells #[.string a2_0, .int .i64 a2_1] 24 (0, 0)) (by (with_reducible repeat (first | refine blk_drewN ?_ _ | refine blk_drew ?_ | refine blk_alloc ?_ _)); exact BK246.out)) : gb283 ≠ gb246)); have n10_ := Aside0.mk ((by rw [hg]; exact Nat.ne_of_lt (blk_lt (g := gb273) (o := .cells #[.string ((rd_T24 y269 x163_2).f0), .int .i64 ((rd_T24 y269 x163_2).f1)] 24 (0, 0)) (by (with_reducible repeat (first | refine blk_drewN ?_ _ | refine blk_drew ?_ | refine blk_alloc ?_ _)); exact BK273.out)) : gb273 ≠ gb283)); have n11_ := Aside0.mk ((by rw [hg]; exact Nat.ne_of_gt (blk_lt (g := gb273) (o := .cells #[.string ((rd_T24 y269 x163_2).f0), .int .i64 ((rd_T24 y269 x163_2).f1)] 24 (0, 0)) (by (with_reducible repeat (first | refine blk_drewN ?_ _ | refine blk_drew ?_ | refine blk_alloc ?_ _)); exact BK273.out)) : gb283 ≠ gb273)); have n12_ := Aside0.mk ((by rw [hg]; exact Nat.ne_of_lt (blk_lt (g := gb278) (o := .cells #[.string t275, .int .i64 t276] 24 (0, 0)) (by (with_reducible repeat (first | refine blk_drewN ?_ _ | refine blk_drew ?_ | refine blk_alloc ?_ _)); exact BK278.out)) : gb278 ≠ gb283)); have n13_ := Aside0.mk ((by rw [hg]; exact Nat.ne_of_gt (blk_lt (g := gb278) (o := .cells #[.string t275, .int .i64 t276] 24 (0, 0)) (by (with_reducible repeat (first | refine blk_drewN ?_ _ | refine blk_drew ?_ | refine blk_alloc ?_ _)); exact BK278.out)) : gb283 ≠ gb278)); clear HO_161; clear BK246; clear BK273; clear BK278; clear HB; have HO_161 := n0_; have BK246 := n1_; have BK273 := n2_; have BK278 := n3_; have HB := n4_; have BK283 := n5_; have GW283 := n6_; have GE283 := n7_; have NB246_283 := n8_; have NB283_246 := n9_; have NB273_283 := n10_; have NB283_273 := n11_; have NB278_283 := n12_; have NB283_278 := n13_; clear n0_ n1_ n2_ n3_ n4_ n5_ n6_ n7_ n8_ n9_ n10_ n11_ n12_ n13_; clear hb hbox hg; have hnb97 := NB283_246.out; have hnc97 := NB246_283.out; have hnb98 := NB283_273.out; have hnc98 := NB273_283.out; have hnb99 := NB283_278.out; have hnc99 := NB278_283.out; have hcz100_0 : w96.cell? ⟨gb283, 0, none⟩ = some (.string (⟨#[]⟩ : ByteArray)) := (blk_cell BK283.out 0).trans rfl; have hcz100_1 : w96.cell? ⟨gb283, 1, none⟩ = some (.int .i64 0) := (blk_cell BK283.out 1).trans rfl; have hfz100_0 := blk_frozen BK283.out 0; have hfz100_1 := blk_frozen BK283.out 1))
                                                              have n0_ : Aside0 (Kd.R k24 24 ((w96.setCell ⟨gb283, 0, none⟩ (.string t280)).setCell ⟨gb283, 1, none⟩ (.int .i64 t281)) w.heap.size (fun k_ => k_ ≠ gb246 ∧ k_ ≠ gb273 ∧ k_ ≠ gb278 ∧ k_ ≠ gb283) (.slice (some ad272) y269.length co63) y269) := ⟨by (with_reducible repeat (first | apply Kd.R_alloc | apply Kd.R_drewN | apply Kd.R_drew)); exact Kd.R_mono (Kd.R_far (p := ⟨gb283, 1, none⟩) (Kd.R_far (p := ⟨gb283, 0, none⟩) (Kd.R_mono HO_161.out (fun k_ hk => (⟨hk, hk.2⟩ : _ ∧ k_ ≠ gb283))) (fun _ hk => hk.2) (.string t280)) (fun _ hk => hk.2) (.int .i64 t281)) (fun _ hk => ⟨hk.1.1.1.1, ⟨hk.1.1.1.2, ⟨hk.1.1.2, hk.1.2⟩⟩⟩)⟩
                                                              have n1_ : Aside0 (((w96.setCell ⟨gb283, 0, none⟩ (.string t280)).setCell ⟨gb283, 1, none⟩ (.int .i64 t281)).heap[gb246]? = some (.cells #[.string a2_0, .int .i64 a2_1] 24 (0, 0))) := ⟨by (with_reducible repeat (first | refine blk_drewN ?_ _ | refine blk_drew ?_ | refine blk_alloc ?_ _)); refine blk_far ?_ NB246_283.out _; (with_reducible repeat (first | refine blk_drewN ?_ _ | refine blk_drew ?_ | refine blk_alloc ?_ _)); refine blk_far ?_ NB246_283.out _; (with_reducible repeat (first | refine blk_drewN ?_ _ | refine blk_drew ?_ | refine blk_alloc ?_ _)); exact BK246.out⟩
                                                              have n2_ : Aside0 (((w96.setCell ⟨gb283, 0, none⟩ (.string t280)).setCell ⟨gb283, 1, none⟩ (.int .i64 t281)).heap[gb273]? = some (.cells #[.string ((rd_T24 y269 x163_2).f0), .int .i64 ((rd_T24 y269 x163_2).f1)] 24 (0, 0))) := ⟨by (with_reducible repeat (first | refine blk_drewN ?_ _ | refine blk_drew ?_ | refine blk_alloc ?_ _)); refine blk_far ?_ NB273_283.out _; (with_reducible repeat (first | refine blk_drewN ?_ _ | refine blk_drew ?_ | refine blk_alloc ?_ _)); refine blk_far ?_ NB273_283.out _; (with_reducible repeat (first | refine blk_drewN ?_ _ | refine blk_drew ?_ | refine blk_alloc ?_ _)); exact BK273.out⟩
                                                              have n3_ : Aside0 (((w96.setCell ⟨gb283, 0, none⟩ (.string t280)).setCell ⟨gb283, 1, none⟩ (.int .i64 t281)).heap[gb278]? = some (.cells #[.string t275, .int .i64 t276] 24 (0, 0))) := ⟨by (with_reducible repeat (first | refine blk_drewN ?_ _ | refine blk_drew ?_ | refine blk_alloc ?_ _)); refine blk_far ?_ NB278_283.out _; (with_reducible repeat (first | refine blk_drewN ?_ _ | refine blk_drew ?_ | refine blk_alloc ?_ _)); refine blk_far ?_ NB278_283.out _; (with_reducible repeat (first | refine blk_drewN ?_ _ | refine blk_drew ?_ | refine blk_alloc ?_ _)); exact BK278.out⟩
                                                              have n4_ : Aside0 (((w96.setCell ⟨gb283, 0, none⟩ (.string t280)).setCell ⟨gb283, 1, none⟩ (.int .i64 t281)).heap[gb283]? = some (.cells #[.string t280, .int .i64 t281] 24 (0, 0))) := ⟨by (with_reducible repeat (first | refine blk_drewN ?_ _ | refine blk_drew ?_ | refine blk_alloc ?_ _)); refine blk_put (cs := #[.string t280, .int .i64 0]) ?_ 1 _ rfl; (with_reducible repeat (first | refine blk_drewN ?_ _ | refine blk_drew ?_ | refine blk_alloc ?_ _)); refine blk_put (cs := #[.string (⟨#[]⟩ : ByteArray), .int .i64 0]) ?_ 0 _ rfl; (with_reducible repeat (first | refine blk_drewN ?_ _ | refine blk_drew ?_ | refine blk_alloc ?_ _)); exact BK283.out⟩
                                                              have n5_ : Aside0 (Below w.heap.size w ((w96.setCell ⟨gb283, 0, none⟩ (.string t280)).setCell ⟨gb283, 1, none⟩ (.int .i64 t281))) := ⟨by repeat (first | (with_reducible first | exact HB.out | apply below_alloc | apply pw_below_drewN | apply below_drew1 | refine below_set ?_ GE246.out | refine below_set ?_ GE273.out | refine below_set ?_ GE278.out | refine below_set ?_ GE283.out) | exact HB.out)⟩
                                                              (try clear HO_161)
                                                              (try clear BK246)
                                                              (try clear BK273)
                                                              (try clear BK278)
                                                              (try clear BK283)
                                                              (try clear HB)
                                                              generalize ((w96.setCell ⟨gb283, 0, none⟩ (.string t280)).setCell ⟨gb283, 1, none⟩ (.int .i64 t281)) = w101 at n0_ n1_ n2_ n3_ n4_ n5_ ⊢
                                                              have HO_161 := n0_
                                                              have BK246 := n1_
                                                              have BK273 := n2_
                                                              have BK278 := n3_
                                                              have BK283 := n4_
                                                              have HB := n5_
                                                              clear n0_ n1_ n2_ n3_ n4_ n5_
                                                              have n0_ := Aside0.mk (Kd.R_drew HO_161.out)
                                                              have n1_ := Aside0.mk (blk_drew BK246.out)
                                                              have n2_ := Aside0.mk (blk_drew BK273.out)
                                                              have n3_ := Aside0.mk (blk_drew BK278.out)
                                                              have n4_ := Aside0.mk (blk_drew BK283.out)
                                                              have n5_ := Aside0.mk (below_drew1 HB.out)
                                                              clear HO_161
                                                              clear BK246
                                                              clear BK273
                                                              clear BK278
                                                              clear BK283
                                                              clear HB
                                                              have HO_161 := n0_
                                                              have BK246 := n1_
                                                              have BK273 := n2_
                                                              have BK278 := n3_
                                                              have BK283 := n4_
                                                              have HB := n5_
                                                              clear n0_ n1_ n2_ n3_ n4_ n5_
                                                              refine start_ (n := 20) (S := fun w' => w'.cell? ⟨gb278, 0, none⟩ = some (.string t275) ∧ w'.cell? ⟨gb278, 1, none⟩ = some (.int .i64 t276) ∧ w'.cell? ⟨gb283, 0, none⟩ = some (.string t280) ∧ w'.cell? ⟨gb283, 1, none⟩ = some (.int .i64 t281) ∧ w'.cell? ⟨gb273, 0, none⟩ = some (.string ((rd_T24 y269 x163_2).f0)) ∧ w'.cell? ⟨gb273, 1, none⟩ = some (.int .i64 ((rd_T24 y269 x163_2).f1))) (ds := []) #[false, false, false, false, false, false, false, false, false, false, false, false, false, false, false, false, false, false, false, false] (by kernel_rfl) rfl rfl ⟨(blk_cell BK278.out 0).trans rfl, (blk_cell BK278.out 1).trans rfl, (blk_cell BK283.out 0).trans rfl, (blk_cell BK283.out 1).trans rfl, (blk_cell BK273.out 0).trans rfl, (blk_cell BK273.out 1).trans rfl⟩ (fun hHeld => ?_); refine with_tabW columbariumlaw10_CodecTells.tab26 columbariumlaw10_CodecTells.bits26 (fun HT_ HW_ => ?_)
                                                              generalize w101.drew = w102 at HO_161 BK246 BK273 BK278 BK283 HB hHeld ⊢
                                                              refine pure_ (i := 0) (N := some 179) (v := ?_) (a' := ?_) #[true, false, false, false, false, false, false, false, false, false, false, false, false, false, false, false, false, false, false, false] rfl rfl (any_of HT_.out (by kernel_rfl)) (fun _ _ _ h => h) (Or.inl ⟨by rfl, ?_⟩) ?_ ?_
                                                              rotate_left
                                                              · intro w'
                                                                go_simp
                                                                with_reducible rfl
                                                              rotate_left
                                                              · simp only [Act.put, List.setIfInBounds_toArray, List.set_cons_zero, List.set_cons_succ, i64_w, i32_w]
                                                                rfl
                                                              refine pure_ (i := 1) (N := some 180) (v := ?_) (a' := ?_) #[true, true, false, false, false, false, false, false, false, false, false, false, false, false, false, false, false, false, false, false] rfl rfl (any_of HT_.out (by kernel_rfl)) (fun _ _ _ h => h) (Or.inl ⟨by rfl, ?_⟩) ?_ ?_
                                                              rotate_left
                                                              · intro w'
                                                                go_simp
                                                                with_reducible rfl
                                                              rotate_left
                                                              · simp only [Act.put, List.setIfInBounds_toArray, List.set_cons_zero, List.set_cons_succ, i64_w, i32_w]
                                                                rfl
                                                              refine pure_ (i := 2) (N := some 181) (v := ?_) (a' := ?_) #[true, true, true, false, false, false, false, false, false, false, false, false, false, false, false, false, false, false, false, false] rfl rfl (any_of HT_.out (by kernel_rfl)) (fun _ _ _ h => h) (Or.inl ⟨by rfl, ?_⟩) ?_ ?_
                                                              rotate_left
                                                              · intro w'
                                                                go_simp
                                                                with_reducible rfl
                                                              rotate_left
                                                              · simp only [Act.put, List.setIfInBounds_toArray, List.set_cons_zero, List.set_cons_succ, i64_w, i32_w]
                                                                rfl
                                                              refine pure_ (i := 3) (N := some 182) (v := ?_) (a' := ?_) #[true, true, true, true, false, false, false, false, false, false, false, false, false, false, false, false, false, false, false, false] rfl rfl (any_of HT_.out (by kernel_rfl)) (fun _ _ _ h => h) (Or.inl ⟨by rfl, ?_⟩) ?_ ?_
                                                              rotate_left
                                                              · intro w'
                                                                go_simp
                                                                with_reducible rfl
                                                              rotate_left
                                                              · simp only [Act.put, List.setIfInBounds_toArray, List.set_cons_zero, List.set_cons_succ, i64_w, i32_w]
                                                                rfl
                                                              refine take_ (i := 4) (N := some 183) (v := ?_) (a' := ?_) #[true, true, true, true, true, false, false, false, false, false, false, false, false, false, false, false, false, false, false, false] rfl rfl (take_ofW HT_.out HW_.out (by kernel_rfl)) (fun _ _ _ h => h) (Or.inl ⟨by rfl, ?_⟩) hHeld ?_ ?_
                                                              rotate_left
                                                              · rintro w' ⟨s0, s1, s2, s3, s4, s5⟩
                                                                go_simp
                                                                with_reducible rfl
                                                              rotate_left
                                                              · simp only [Act.put, List.setIfInBounds_toArray, List.set_cons_zero, List.set_cons_succ, i64_w, i32_w]
                                                                rfl
                                                              refine take_ (i := 5) (N := some 184) (v := ?_) (a' := ?_) #[true, true, true, true, true, true, false, false, false, false, false, false, false, false, false, false, false, false, false, false] rfl rfl (take_ofW HT_.out HW_.out (by kernel_rfl)) (fun _ _ _ h => h) (Or.inl ⟨by rfl, ?_⟩) hHeld ?_ ?_
                                                              rotate_left
                                                              · rintro w' ⟨s0, s1, s2, s3, s4, s5⟩
                                                                go_simp
                                                                with_reducible rfl
                                                              rotate_left
                                                              · simp only [Act.put, List.setIfInBounds_toArray, List.set_cons_zero, List.set_cons_succ, i64_w, i32_w]
                                                                rfl
                                                              refine pure_ (i := 6) (N := some 185) (v := ?_) (a' := ?_) #[true, true, true, true, true, true, true, false, false, false, false, false, false, false, false, false, false, false, false, false] rfl rfl (any_of HT_.out (by kernel_rfl)) (fun _ _ _ h => h) (Or.inl ⟨by rfl, ?_⟩) ?_ ?_
                                                              rotate_left
                                                              · intro w'
                                                                go_simp
                                                                with_reducible rfl
                                                              rotate_left
                                                              · simp only [Act.put, List.setIfInBounds_toArray, List.set_cons_zero, List.set_cons_succ, i64_w, i32_w]
                                                                rfl
                                                              refine pure_ (i := 7) (N := some 186) (v := ?_) (a' := ?_) #[true, true, true, true, true, true, true, true, false, false, false, false, false, false, false, false, false, false, false, false] rfl rfl (any_of HT_.out (by kernel_rfl)) (fun _ _ _ h => h) (Or.inl ⟨by rfl, ?_⟩) ?_ ?_
                                                              rotate_left
                                                              · intro w'
                                                                go_simp
                                                                with_reducible rfl
                                                              rotate_left
                                                              · simp only [Act.put, List.setIfInBounds_toArray, List.set_cons_zero, List.set_cons_succ, i64_w, i32_w]
                                                                rfl
                                                              refine pure_ (i := 8) (N := some 187) (v := ?_) (a' := ?_) #[true, true, true, true, true, true, true, true, true, false, false, false, false, false, false, false, false, false, false, false] rfl rfl (any_of HT_.out (by kernel_rfl)) (fun _ _ _ h => h) (Or.inl ⟨by rfl, ?_⟩) ?_ ?_
                                                              rotate_left
                                                              · intro w'
                                                                go_simp
                                                                with_reducible rfl
                                                              rotate_left
                                                              · simp only [Act.put, List.setIfInBounds_toArray, List.set_cons_zero, List.set_cons_succ, i64_w, i32_w]
                                                                rfl
                                                              refine pure_ (i := 9) (N := some 188) (v := ?_) (a' := ?_) #[true, true, true, true, true, true, true, true, true, true, false, false, false, false, false, false, false, false, false, false] rfl rfl (any_of HT_.out (by kernel_rfl)) (fun _ _ _ h => h) (Or.inl ⟨by rfl, ?_⟩) ?_ ?_
                                                              rotate_left
                                                              · intro w'
                                                                go_simp
                                                                with_reducible rfl
                                                              rotate_left
                                                              · simp only [Act.put, List.setIfInBounds_toArray, List.set_cons_zero, List.set_cons_succ, i64_w, i32_w]
                                                                rfl
                                                              refine pure_ (i := 10) (N := some 189) (v := ?_) (a' := ?_) #[true, true, true, true, true, true, true, true, true, true, true, false, false, false, false, false, false, false, false, false] rfl rfl (any_of HT_.out (by kernel_rfl)) (fun _ _ _ h => h) (Or.inl ⟨by rfl, ?_⟩) ?_ ?_
                                                              rotate_left
                                                              · intro w'
                                                                go_simp
                                                                with_reducible rfl
                                                              rotate_left
                                                              · simp only [Act.put, List.setIfInBounds_toArray, List.set_cons_zero, List.set_cons_succ, i64_w, i32_w]
                                                                rfl
                                                              refine pure_ (i := 11) (N := some 190) (v := ?_) (a' := ?_) #[true, true, true, true, true, true, true, true, true, true, true, true, false, false, false, false, false, false, false, false] rfl rfl (any_of HT_.out (by kernel_rfl)) (fun _ _ _ h => h) (Or.inl ⟨by rfl, ?_⟩) ?_ ?_
                                                              rotate_left
                                                              · intro w'
                                                                go_simp
                                                                with_reducible rfl
                                                              rotate_left
                                                              · simp only [Act.put, List.setIfInBounds_toArray, List.set_cons_zero, List.set_cons_succ, i64_w, i32_w]
                                                                rfl
                                                              refine pure_ (i := 12) (N := some 191) (v := ?_) (a' := ?_) #[true, true, true, true, true, true, true, true, true, true, true, true, true, false, false, false, false, false, false, false] rfl rfl (any_of HT_.out (by kernel_rfl)) (fun _ _ _ h => h) (Or.inl ⟨by rfl, ?_⟩) ?_ ?_
                                                              rotate_left
                                                              · intro w'
                                                                go_simp
                                                                with_reducible rfl
                                                              rotate_left
                                                              · simp only [Act.put, List.setIfInBounds_toArray, List.set_cons_zero, List.set_cons_succ, i64_w, i32_w]
                                                                rfl
                                                              refine pure_ (i := 13) (N := some 192) (v := ?_) (a' := ?_) #[true, true, true, true, true, true, true, true, true, true, true, true, true, true, false, false, false, false, false, false] rfl rfl (any_of HT_.out (by kernel_rfl)) (fun _ _ _ h => h) (Or.inl ⟨by rfl, ?_⟩) ?_ ?_
                                                              rotate_left
                                                              · intro w'
                                                                go_simp
                                                                with_reducible rfl
                                                              rotate_left
                                                              · simp only [Act.put, List.setIfInBounds_toArray, List.set_cons_zero, List.set_cons_succ, i64_w, i32_w]
                                                                rfl
                                                              refine take_ (i := 14) (N := some 193) (v := ?_) (a' := ?_) #[true, true, true, true, true, true, true, true, true, true, true, true, true, true, true, false, false, false, false, false] rfl rfl (take_ofW HT_.out HW_.out (by kernel_rfl)) (fun _ _ _ h => h) (Or.inl ⟨by rfl, ?_⟩) hHeld ?_ ?_
                                                              rotate_left
                                                              · rintro w' ⟨s0, s1, s2, s3, s4, s5⟩
                                                                go_simp
                                                                with_reducible rfl
                                                              rotate_left
                                                              · simp only [Act.put, List.setIfInBounds_toArray, List.set_cons_zero, List.set_cons_succ, i64_w, i32_w]
                                                                rfl
                                                              refine take_ (i := 16) (N := some 195) (v := ?_) (a' := ?_) #[true, true, true, true, true, true, true, true, true, true, true, true, true, true, true, false, true, false, false, false] rfl rfl (take_ofW HT_.out HW_.out (by kernel_rfl)) (fun _ _ _ h => h) (Or.inl ⟨by rfl, ?_⟩) hHeld ?_ ?_
                                                              rotate_left
                                                              · rintro w' ⟨s0, s1, s2, s3, s4, s5⟩
                                                                go_simp
                                                                with_reducible rfl
                                                              rotate_left
                                                              · simp only [Act.put, List.setIfInBounds_toArray, List.set_cons_zero, List.set_cons_succ, i64_w, i32_w]
                                                                rfl
                                                              refine one_ (i := 15) (N := some 194) #[true, true, true, true, true, true, true, true, true, true, true, true, true, true, true, true, true, false, false, false] rfl rfl (one_of HT_.out (by kernel_rfl)) (by decide) (fun K hK => ?_)
                                                              refine goes_ Try.func20 (by kernel_rfl) rfl #[.agg #[.string ((rd_T24 y269 x163_2).f0), .int .i64 ((rd_T24 y269 x163_2).f1)]] (by rfl) rfl rfl (by (try simp only [List.map_toArray, List.map_cons, List.map_nil]); first | done | rfl | (simp only [List.length_drop, List.length_take]; rfl)) ?_
                                                              with_reducible refine (codec_End.calls ((rd_T24 y269 x163_2).f0) ((rd_T24 y269 x163_2).f1) t284 _ A72.out).mono ?_
                                                              rintro e w103 ⟨rfl, hb⟩
                                                              refine ⟨_, rfl, ?_⟩
                                                              have n0_ := Aside0.mk (Kd.R_below (by (with_reducible repeat (first | apply Kd.R_alloc | apply Kd.R_drewN | apply Kd.R_drew)); exact HO_161.out) hb)
                                                              have n1_ := Aside0.mk (blk_below (g := gb246) (o := .cells #[.string a2_0, .int .i64 a2_1] 24 (0, 0)) (by (with_reducible repeat (first | refine blk_drewN ?_ _ | refine blk_drew ?_ | refine blk_alloc ?_ _)); exact BK246.out) hb)
                                                              have n2_ := Aside0.mk (blk_below (g := gb273) (o := .cells #[.string ((rd_T24 y269 x163_2).f0), .int .i64 ((rd_T24 y269 x163_2).f1)] 24 (0, 0)) (by (with_reducible repeat (first | refine blk_drewN ?_ _ | refine blk_drew ?_ | refine blk_alloc ?_ _)); exact BK273.out) hb)
                                                              have n3_ := Aside0.mk (blk_below (g := gb278) (o := .cells #[.string t275, .int .i64 t276] 24 (0, 0)) (by (with_reducible repeat (first | refine blk_drewN ?_ _ | refine blk_drew ?_ | refine blk_alloc ?_ _)); exact BK278.out) hb)
                                                              have n4_ := Aside0.mk (blk_below (g := gb283) (o := .cells #[.string t280, .int .i64 t281] 24 (0, 0)) (by (with_reducible repeat (first | refine blk_drewN ?_ _ | refine blk_drew ?_ | refine blk_alloc ?_ _)); exact BK283.out) hb)
                                                              have n5_ := Aside0.mk (below_step (by repeat (first | (with_reducible first | exact HB.out | apply below_alloc | apply pw_below_drewN | apply below_drew1 | refine below_set ?_ GE246.out | refine below_set ?_ GE273.out | refine below_set ?_ GE278.out | refine below_set ?_ GE283.out) | exact HB.out)) hb)
                                                              clear HO_161
                                                              clear BK246
                                                              clear BK273
                                                              clear BK278
                                                              clear BK283
                                                              clear HB
                                                              have HO_161 := n0_
                                                              have BK246 := n1_
                                                              have BK273 := n2_
                                                              have BK278 := n3_
                                                              have BK283 := n4_
                                                              have HB := n5_
                                                              clear n0_ n1_ n2_ n3_ n4_ n5_
                                                              (try clear hb)
                                                              (try clear hb2)
                                                              (try clear hk)
                                                              (try clear hi)
                                                              refine hK.out _ _ ⟨(blk_cell BK278.out 0).trans rfl, (blk_cell BK278.out 1).trans rfl, (blk_cell BK283.out 0).trans rfl, (blk_cell BK283.out 1).trans rfl, (blk_cell BK273.out 0).trans rfl, (blk_cell BK273.out 1).trans rfl⟩ (fun hHeld => ?_)
                                                              clear hK K
                                                              refine norm_ (a' := ?_) ?_ ?_
                                                              rotate_left
                                                              · show Act.put _ (some 194) _ = _
                                                                simp only [Act.put, List.setIfInBounds_toArray, List.set_cons_zero, List.set_cons_succ, i64_w, i32_w]
                                                                rfl
                                                              refine one_ (i := 17) (N := some 196) #[true, true, true, true, true, true, true, true, true, true, true, true, true, true, true, true, true, true, false, false] rfl rfl (one_of HT_.out (by kernel_rfl)) (by decide) (fun K hK => ?_)
                                                              refine goes_ Try.func21 (by kernel_rfl) rfl #[.agg #[.string ((rd_T24 y269 x163_2).f0), .int .i64 ((rd_T24 y269 x163_2).f1)]] (by rfl) rfl rfl (by (try simp only [List.map_toArray, List.map_cons, List.map_nil]); first | done | rfl | (simp only [List.length_drop, List.length_take]; rfl)) ?_
                                                              with_reducible refine (columbariumref10_End.calls ((rd_T24 y269 x163_2).f0) ((rd_T24 y269 x163_2).f1) t285 _ A73.out).mono ?_
                                                              rintro e w104 ⟨rfl, hb⟩
                                                              refine ⟨_, rfl, ?_⟩
                                                              have n0_ := Aside0.mk (Kd.R_below (by (with_reducible repeat (first | apply Kd.R_alloc | apply Kd.R_drewN | apply Kd.R_drew)); exact HO_161.out) hb)
                                                              have n1_ := Aside0.mk (blk_below (g := gb246) (o := .cells #[.string a2_0, .int .i64 a2_1] 24 (0, 0)) (by (with_reducible repeat (first | refine blk_drewN ?_ _ | refine blk_drew ?_ | refine blk_alloc ?_ _)); exact BK246.out) hb)
                                                              have n2_ := Aside0.mk (blk_below (g := gb273) (o := .cells #[.string ((rd_T24 y269 x163_2).f0), .int .i64 ((rd_T24 y269 x163_2).f1)] 24 (0, 0)) (by (with_reducible repeat (first | refine blk_drewN ?_ _ | refine blk_drew ?_ | refine blk_alloc ?_ _)); exact BK273.out) hb)
                                                              have n3_ := Aside0.mk (blk_below (g := gb278) (o := .cells #[.string t275, .int .i64 t276] 24 (0, 0)) (by (with_reducible repeat (first | refine blk_drewN ?_ _ | refine blk_drew ?_ | refine blk_alloc ?_ _)); exact BK278.out) hb)
                                                              have n4_ := Aside0.mk (blk_below (g := gb283) (o := .cells #[.string t280, .int .i64 t281] 24 (0, 0)) (by (with_reducible repeat (first | refine blk_drewN ?_ _ | refine blk_drew ?_ | refine blk_alloc ?_ _)); exact BK283.out) hb)
                                                              have n5_ := Aside0.mk (below_step (by repeat (first | (with_reducible first | exact HB.out | apply below_alloc | apply pw_below_drewN | apply below_drew1 | refine below_set ?_ GE246.out | refine below_set ?_ GE273.out | refine below_set ?_ GE278.out | refine below_set ?_ GE283.out) | exact HB.out)) hb)
                                                              clear HO_161
                                                              clear BK246
                                                              clear BK273
                                                              clear BK278
                                                              clear BK283
                                                              clear HB
                                                              have HO_161 := n0_
                                                              have BK246 := n1_
                                                              have BK273 := n2_
                                                              have BK278 := n3_
                                                              have BK283 := n4_
                                                              have HB := n5_
                                                              clear n0_ n1_ n2_ n3_ n4_ n5_
                                                              (try clear hb)
                                                              (try clear hb2)
                                                              (try clear hk)
                                                              (try clear hi)
                                                              refine hK.out _ _ ⟨(blk_cell BK278.out 0).trans rfl, (blk_cell BK278.out 1).trans rfl, (blk_cell BK283.out 0).trans rfl, (blk_cell BK283.out 1).trans rfl, (blk_cell BK273.out 0).trans rfl, (blk_cell BK273.out 1).trans rfl⟩ (fun hHeld => ?_)
                                                              clear hK K
                                                              refine norm_ (a' := ?_) ?_ ?_
                                                              rotate_left
                                                              · show Act.put _ (some 196) _ = _
                                                                simp only [Act.put, List.setIfInBounds_toArray, List.set_cons_zero, List.set_cons_succ, i64_w, i32_w]
                                                                rfl
                                                              refine pure_ (i := 18) (N := some 197) (v := ?_) (a' := ?_) #[true, true, true, true, true, true, true, true, true, true, true, true, true, true, true, true, true, true, true, false] rfl rfl (any_of HT_.out (by kernel_rfl)) (fun _ _ _ h => h) (Or.inl ⟨by rfl, ?_⟩) ?_ ?_
                                                              rotate_left
                                                              · intro w'
                                                                go_simp
                                                                with_reducible rfl
                                                              rotate_left
                                                              · simp only [Act.put, List.setIfInBounds_toArray, List.set_cons_zero, List.set_cons_succ, i64_w, i32_w]
                                                                rfl
                                                              refine pure_ (i := 19) (N := some 198) (v := ?_) (a' := ?_) #[true, true, true, true, true, true, true, true, true, true, true, true, true, true, true, true, true, true, true, true] rfl rfl (any_of HT_.out (by kernel_rfl)) (fun _ _ _ h => h) (Or.inl ⟨by rfl, ?_⟩) ?_ ?_
                                                              rotate_left
                                                              · intro w'
                                                                go_simp
                                                                with_reducible rfl
                                                              rotate_left
                                                              · simp only [Act.put, List.setIfInBounds_toArray, List.set_cons_zero, List.set_cons_succ, i64_w, i32_w]
                                                                rfl
                                                              refine done_ (done_of HT_.out (by kernel_rfl)) ?_
                                                              have hcz105_0 : w104.cell? ⟨gb273, 0, none⟩ = some (.string ((rd_T24 y269 x163_2).f0)) := (blk_cell BK273.out 0).trans rfl
                                                              have hcz105_1 : w104.cell? ⟨gb273, 1, none⟩ = some (.int .i64 ((rd_T24 y269 x163_2).f1)) := (blk_cell BK273.out 1).trans rfl
                                                              have hfz105_0 := blk_frozen BK273.out 0
                                                              have hfz105_1 := blk_frozen BK273.out 1
                                                              try go_wp2_with (first | ((with_reducible refine gate_callee (f := 22) rfl ?_); refine goesL_ (some 201) rfl rfl Try.func22 (by kernel_rfl) rfl #[.agg #[.string ((rd_T24 y269 x163_2).f0), .int .i64 ((rd_T24 y269 x163_2).f1)]] rfl (by (try simp only [List.map_toArray, List.map_cons, List.map_nil]); first | done | rfl | (simp only [List.length_drop, List.length_take]; rfl)) ?_; (with_reducible refine (codec_TakeText.calls k2 ((rd_T24 y269 x163_2).f0) ((rd_T24 y269 x163_2).f1) t286 t287 t288 t289 _ A75.out).mono ?_); rintro e w106 ⟨rfl, hb⟩; refine ⟨_, rfl, ?_⟩; have n0_ := Aside0.mk (Kd.R_below (by (with_reducible repeat (first | apply Kd.R_alloc | apply Kd.R_drewN | apply Kd.R_drew)); exact HO_161.out) hb); have n1_ := Aside0.mk (blk_below (g := gb246) (o := .cells #[.string a2_0, .int .i64 a2_1] 24 (0, 0)) (by (with_reducible repeat (first | refine blk_drewN ?_ _ | refine blk_drew ?_ | refine blk_alloc ?_ _)); exact BK246.out) hb); have n2_ := Aside0.mk (blk_below (g := gb273) (o := .cells #[.string ((rd_T24 y269 x163_2).f0), .int .i64 ((rd_T24 y269 x163_2).f1)] 24 (0, 0)) (by (with_reducible repeat (first | refine blk_drewN ?_ _ | refine blk_drew ?_ | refine blk_alloc ?_ _)); exact BK273.out) hb); have n3_ := Aside0.mk (blk_below (g := gb278) (o := .cells #[.string t275, .int .i64 t276] 24 (0, 0)) (by (with_reducible repeat (first | refine blk_drewN ?_ _ | refine blk_drew ?_ | refine blk_alloc ?_ _)); exact BK278.out) hb); have n4_ := Aside0.mk (blk_below (g := gb283) (o := .cells #[.string t280, .int .i64 t281] 24 (0, 0)) (by (with_reducible repeat (first | refine blk_drewN ?_ _ | refine blk_drew ?_ | refine blk_alloc ?_ _)); exact BK283.out) hb); have n5_ := Aside0.mk (below_step (by repeat (first | (with_reducible first | exact HB.out | apply below_alloc | apply pw_below_drewN | apply below_drew1 | refine below_set ?_ GE246.out | refine below_set ?_ GE273.out | refine below_set ?_ GE278.out | refine below_set ?_ GE283.out) | exact HB.out)) hb); clear HO_161; clear BK246; clear BK273; clear BK278; clear BK283; clear HB; have HO_161 := n0_; have BK246 := n1_; have BK273 := n2_; have BK278 := n3_; have BK283 := n4_; have HB := n5_; clear n0_ n1_ n2_ n3_ n4_ n5_; (try clear hb); (try clear hb2); (try clear hk); (try clear hi); have hcz107_0 : w106.cell? ⟨gb278, 0, none⟩ = some (.string t275) := (blk_cell BK278.out 0).trans rfl; have hcz107_1 : w106.cell? ⟨gb278, 1, none⟩ = some (.int .i64 t276) := (blk_cell BK278.out 1).trans rfl; have hfz107_0 := blk_frozen BK278.out 0; have hfz107_1 := blk_frozen BK278.out 1; have hcz108_0 : w106.cell? ⟨gb273, 0, none⟩ = some (.string ((rd_T24 y269 x163_2).f0)) := (blk_cell BK273.out 0).trans rfl; have hcz108_1 : w106.cell? ⟨gb273, 1, none⟩ = some (.int .i64 ((rd_T24 y269 x163_2).f1)) := (blk_cell BK273.out 1).trans rfl; have hfz108_0 := blk_frozen BK273.out 0; have hfz108_1 := blk_frozen BK273.out 1) | ((with_reducible refine gate_callee (f := 23) rfl ?_); refine goesL_ (some 207) rfl rfl Try.func23 (by kernel_rfl) rfl #[.agg #[.string ((rd_T24 y269 x163_2).f0), .int .i64 ((rd_T24 y269 x163_2).f1)]] rfl (by (try simp only [List.map_toArray, List.map_cons, List.map_nil]); first | done | rfl | (simp only [List.length_drop, List.length_take]; rfl)) ?_; (with_reducible refine (columbariumref10_TakeText.calls k2 ((rd_T24 y269 x163_2).f0) ((rd_T24 y269 x163_2).f1) t290 t291 t292 t293 _ A76.out).mono ?_); rintro e w109 ⟨rfl, hb⟩; refine ⟨_, rfl, ?_⟩; have n0_ := Aside0.mk (Kd.R_below (by (with_reducible repeat (first | apply Kd.R_alloc | apply Kd.R_drewN | apply Kd.R_drew)); exact (Kd.R_mono (Kd.R_far (p := ⟨gb278, 1, none⟩) (Kd.R_far (p := ⟨gb278, 0, none⟩) (Kd.R_mono HO_161.out (fun k_ hk => (⟨hk, hk.2.2.1⟩ : _ ∧ k_ ≠ gb278))) (fun _ hk => hk.2) (.string t287)) (fun _ hk => hk.2) (.int .i64 t288)) (fun _ h_ => h_.1))) hb); have n1_ := Aside0.mk (blk_below (g := gb246) (o := .cells #[.string a2_0, .int .i64 a2_1] 24 (0, 0)) (by (with_reducible repeat (first | refine blk_drewN ?_ _ | refine blk_drew ?_ | refine blk_alloc ?_ _)); refine blk_far ?_ NB246_278.out _; (with_reducible repeat (first | refine blk_drewN ?_ _ | refine blk_drew ?_ | refine blk_alloc ?_ _)); refine blk_far ?_ NB246_278.out _; (with_reducible repeat (first | refine blk_drewN ?_ _ | refine blk_drew ?_ | refine blk_alloc ?_ _)); exact BK246.out) hb); have n2_ := Aside0.mk (blk_below (g := gb273) (o := .cells #[.string ((rd_T24 y269 x163_2).f0), .int .i64 ((rd_T24 y269 x163_2).f1)] 24 (0, 0)) (by (with_reducible repeat (first | refine blk_drewN ?_ _ | refine blk_drew ?_ | refine blk_alloc ?_ _)); refine blk_far ?_ NB273_278.out _; (with_reducible repeat (first | refine blk_drewN ?_ _ | refine blk_drew ?_ | refine blk_alloc ?_ _)); refine blk_far ?_ NB273_278.out _; (with_reducible repeat (first | refine blk_drewN ?_ _ | refine blk_drew ?_ | refine blk_alloc ?_ _)); exact BK273.out) hb); have n3_ := Aside0.mk (blk_below (g := gb278) (o := .cells #[.string t287, .int .i64 t288] 24 (0, 0)) (by (with_reducible repeat (first | refine blk_drewN ?_ _ | refine blk_drew ?_ | refine blk_alloc ?_ _)); refine blk_put (cs := #[.string t287, .int .i64 t276]) ?_ 1 _ rfl; (with_reducible repeat (first | refine blk_drewN ?_ _ | refine blk_drew ?_ | refine blk_alloc ?_ _)); refine blk_put (cs := #[.string t275, .int .i64 t276]) ?_ 0 _ rfl; (with_reducible repeat (first | refine blk_drewN ?_ _ | refine blk_drew ?_ | refine blk_alloc ?_ _)); exact BK278.out) hb); have n4_ := Aside0.mk (blk_below (g := gb283) (o := .cells #[.string t280, .int .i64 t281] 24 (0, 0)) (by (with_reducible repeat (first | refine blk_drewN ?_ _ | refine blk_drew ?_ | refine blk_alloc ?_ _)); refine blk_far ?_ NB283_278.out _; (with_reducible repeat (first | refine blk_drewN ?_ _ | refine blk_drew ?_ | refine blk_alloc ?_ _)); refine blk_far ?_ NB283_278.out _; (with_reducible repeat (first | refine blk_drewN ?_ _ | refine blk_drew ?_ | refine blk_alloc ?_ _)); exact BK283.out) hb); have n5_ := Aside0.mk (below_step (by repeat (first | (with_reducible first | exact HB.out | apply below_alloc | apply pw_below_drewN | apply below_drew1 | refine below_set ?_ GE246.out | refine below_set ?_ GE273.out | refine below_set ?_ GE278.out | refine below_set ?_ GE283.out) | exact HB.out)) hb); clear HO_161; clear BK246; clear BK273; clear BK278; clear BK283; clear HB; have HO_161 := n0_; have BK246 := n1_; have BK273 := n2_; have BK278 := n3_; have BK283 := n4_; have HB := n5_; clear n0_ n1_ n2_ n3_ n4_ n5_; (try clear hb); (try clear hb2); (try clear hk); (try clear hi); have hcz110_0 : w109.cell? ⟨gb283, 0, none⟩ = some (.string t280) := (blk_cell BK283.out 0).trans rfl; have hcz110_1 : w109.cell? ⟨gb283, 1, none⟩ = some (.int .i64 t281) := (blk_cell BK283.out 1).trans rfl; have hfz110_0 := blk_frozen BK283.out 0; have hfz110_1 := blk_frozen BK283.out 1; have hcz111_0 : w109.cell? ⟨gb278, 0, none⟩ = some (.string t287) := (blk_cell BK278.out 0).trans rfl; have hcz111_1 : w109.cell? ⟨gb278, 1, none⟩ = some (.int .i64 t288) := (blk_cell BK278.out 1).trans rfl; have hfz111_0 := blk_frozen BK278.out 0; have hfz111_1 := blk_frozen BK278.out 1; have hcz112_0 : w109.cell? ⟨gb273, 0, none⟩ = some (.string ((rd_T24 y269 x163_2).f0)) := (blk_cell BK273.out 0).trans rfl; have hcz112_1 : w109.cell? ⟨gb273, 1, none⟩ = some (.int .i64 ((rd_T24 y269 x163_2).f1)) := (blk_cell BK273.out 1).trans rfl; have hfz112_0 := blk_frozen BK273.out 0; have hfz112_1 := blk_frozen BK273.out 1) | ((with_reducible refine gate_callee (f := 24) rfl ?_); refine goesL_ (some 226) rfl rfl Try.func24 (by kernel_rfl) rfl #[.agg #[.string ((rd_T24 y269 x163_2).f0), .int .i64 ((rd_T24 y269 x163_2).f1)]] rfl (by (try simp only [List.map_toArray, List.map_cons, List.map_nil]); first | done | rfl | (simp only [List.length_drop, List.length_take]; rfl)) ?_; (with_reducible refine (codec_TakeList.calls k2 ((rd_T24 y269 x163_2).f0) ((rd_T24 y269 x163_2).f1) t294 t297 t298 t299 _ A80.out).mono ?_); rintro e w113 ⟨v295, rfl, ho0, hb⟩; refine ⟨_, rfl, ?_⟩; have n0_ := Aside0.mk (Kd.R_below (by (with_reducible repeat (first | apply Kd.R_alloc | apply Kd.R_drewN | apply Kd.R_drew)); exact (Kd.R_mono (Kd.R_far (p := ⟨gb283, 1, none⟩) (Kd.R_far (p := ⟨gb283, 0, none⟩) (Kd.R_mono HO_161.out (fun k_ hk => (⟨hk, hk.2.2.2⟩ : _ ∧ k_ ≠ gb283))) (fun _ hk => hk.2) (.string t291)) (fun _ hk => hk.2) (.int .i64 t292)) (fun _ h_ => h_.1))) hb); have n1_ := Aside0.mk (Kd.V_lower (Kd.V_mono (ok' := fun k_ => some k_ ≠ (.slice (some ad272) y269.length co63 : Value).ownBlock ∧ k_ ≠ gb246 ∧ k_ ≠ gb273 ∧ k_ ≠ gb278 ∧ k_ ≠ gb283) ho0 (fun k_ hk_ => ⟨(Kd.fresh' (Kd.R_lt (by (with_reducible repeat (first | apply Kd.R_alloc | apply Kd.R_drewN | apply Kd.R_drew)); exact (Kd.R_mono (Kd.R_far (p := ⟨gb283, 1, none⟩) (Kd.R_far (p := ⟨gb283, 0, none⟩) (Kd.R_mono HO_161.out (fun k_ hk => (⟨hk, hk.2.2.2⟩ : _ ∧ k_ ≠ gb283))) (fun _ hk => hk.2) (.string t291)) (fun _ hk => hk.2) (.int .i64 t292)) (fun _ h_ => h_.1)))) k_ hk_), (Kd.freshB (g := gb246) (o := .cells #[.string a2_0, .int .i64 a2_1] 24 (0, 0)) (by (with_reducible repeat (first | refine blk_drewN ?_ _ | refine blk_drew ?_ | refine blk_alloc ?_ _)); refine blk_far ?_ NB246_283.out _; (with_reducible repeat (first | refine blk_drewN ?_ _ | refine blk_drew ?_ | refine blk_alloc ?_ _)); refine blk_far ?_ NB246_283.out _; (with_reducible repeat (first | refine blk_drewN ?_ _ | refine blk_drew ?_ | refine blk_alloc ?_ _)); exact BK246.out) k_ hk_), (Kd.freshB (g := gb273) (o := .cells #[.string ((rd_T24 y269 x163_2).f0), .int .i64 ((rd_T24 y269 x163_2).f1)] 24 (0, 0)) (by (with_reducible repeat (first | refine blk_drewN ?_ _ | refine blk_drew ?_ | refine blk_alloc ?_ _)); refine blk_far ?_ NB273_283.out _; (with_reducible repeat (first | refine blk_drewN ?_ _ | refine blk_drew ?_ | refine blk_alloc ?_ _)); refine blk_far ?_ NB273_283.out _; (with_reducible repeat (first | refine blk_drewN ?_ _ | refine blk_drew ?_ | refine blk_alloc ?_ _)); exact BK273.out) k_ hk_), (Kd.freshB (g := gb278) (o := .cells #[.string t287, .int .i64 t288] 24 (0, 0)) (by (with_reducible repeat (first | refine blk_drewN ?_ _ | refine blk_drew ?_ | refine blk_alloc ?_ _)); refine blk_far ?_ NB278_283.out _; (with_reducible repeat (first | refine blk_drewN ?_ _ | refine blk_drew ?_ | refine blk_alloc ?_ _)); refine blk_far ?_ NB278_283.out _; (with_reducible repeat (first | refine blk_drewN ?_ _ | refine blk_drew ?_ | refine blk_alloc ?_ _)); exact BK278.out) k_ hk_), (Kd.freshB (g := gb283) (o := .cells #[.string t291, .int .i64 t292] 24 (0, 0)) (by (with_reducible repeat (first | refine blk_drewN ?_ _ | refine blk_drew ?_ | refine blk_alloc ?_ _)); refine blk_put (cs := #[.string t291, .int .i64 t281]) ?_ 1 _ rfl; (with_reducible repeat (first | refine blk_drewN ?_ _ | refine blk_drew ?_ | refine blk_alloc ?_ _)); refine blk_put (cs := #[.string t280, .int .i64 t281]) ?_ 0 _ rfl; (with_reducible repeat (first | refine blk_drewN ?_ _ | refine blk_drew ?_ | refine blk_alloc ?_ _)); exact BK283.out) k_ hk_)⟩)) (below_size (by repeat (first | (with_reducible first | exact HB.out | apply below_alloc | apply pw_below_drewN | apply below_drew1 | refine below_set ?_ GE246.out | refine below_set ?_ GE273.out | refine below_set ?_ GE278.out | refine below_set ?_ GE283.out) | exact HB.out)))); have n2_ := Aside0.mk (blk_below (g := gb246) (o := .cells #[.string a2_0, .int .i64 a2_1] 24 (0, 0)) (by (with_reducible repeat (first | refine blk_drewN ?_ _ | refine blk_drew ?_ | refine blk_alloc ?_ _)); refine blk_far ?_ NB246_283.out _; (with_reducible repeat (first | refine blk_drewN ?_ _ | refine blk_drew ?_ | refine blk_alloc ?_ _)); refine blk_far ?_ NB246_283.out _; (with_reducible repeat (first | refine blk_drewN ?_ _ | refine blk_drew ?_ | refine blk_alloc ?_ _)); exact BK246.out) hb); have n3_ := Aside0.mk (blk_below (g := gb273) (o := .cells #[.string ((rd_T24 y269 x163_2).f0), .int .i64 ((rd_T24 y269 x163_2).f1)] 24 (0, 0)) (by (with_reducible repeat (first | refine blk_drewN ?_ _ | refine blk_drew ?_ | refine blk_alloc ?_ _)); refine blk_far ?_ NB273_283.out _; (with_reducible repeat (first | refine blk_drewN ?_ _ | refine blk_drew ?_ | refine blk_alloc ?_ _)); refine blk_far ?_ NB273_283.out _; (with_reducible repeat (first | refine blk_drewN ?_ _ | refine blk_drew ?_ | refine blk_alloc ?_ _)); exact BK273.out) hb); have n4_ := Aside0.mk (blk_below (g := gb278) (o := .cells #[.string t287, .int .i64 t288] 24 (0, 0)) (by (with_reducible repeat (first | refine blk_drewN ?_ _ | refine blk_drew ?_ | refine blk_alloc ?_ _)); refine blk_far ?_ NB278_283.out _; (with_reducible repeat (first | refine blk_drewN ?_ _ | refine blk_drew ?_ | refine blk_alloc ?_ _)); refine blk_far ?_ NB278_283.out _; (with_reducible repeat (first | refine blk_drewN ?_ _ | refine blk_drew ?_ | refine blk_alloc ?_ _)); exact BK278.out) hb); have n5_ := Aside0.mk (blk_below (g := gb283) (o := .cells #[.string t291, .int .i64 t292] 24 (0, 0)) (by (with_reducible repeat (first | refine blk_drewN ?_ _ | refine blk_drew ?_ | refine blk_alloc ?_ _)); refine blk_put (cs := #[.string t291, .int .i64 t281]) ?_ 1 _ rfl; (with_reducible repeat (first | refine blk_drewN ?_ _ | refine blk_drew ?_ | refine blk_alloc ?_ _)); refine blk_put (cs := #[.string t280, .int .i64 t281]) ?_ 0 _ rfl; (with_reducible repeat (first | refine blk_drewN ?_ _ | refine blk_drew ?_ | refine blk_alloc ?_ _)); exact BK283.out) hb); have n6_ := Aside0.mk (below_step (by repeat (first | (with_reducible first | exact HB.out | apply below_alloc | apply pw_below_drewN | apply below_drew1 | refine below_set ?_ GE246.out | refine below_set ?_ GE273.out | refine below_set ?_ GE278.out | refine below_set ?_ GE283.out) | exact HB.out)) hb); clear HO_161; clear BK246; clear BK273; clear BK278; clear BK283; clear HB; have HO_161 := n0_; have HO296 := n1_; have BK246 := n2_; have BK273 := n3_; have BK278 := n4_; have BK283 := n5_; have HB := n6_; clear n0_ n1_ n2_ n3_ n4_ n5_ n6_; (try clear hb); (try clear hb2); (try clear hk); (try clear hi); (try clear ho0); have hcz114_0 : w113.cell? ⟨gb278, 0, none⟩ = some (.string t287) := (blk_cell BK278.out 0).trans rfl; have hcz114_1 : w113.cell? ⟨gb278, 1, none⟩ = some (.int .i64 t288) := (blk_cell BK278.out 1).trans rfl; have hfz114_0 := blk_frozen BK278.out 0; have hfz114_1 := blk_frozen BK278.out 1; have hcz115_0 : w113.cell? ⟨gb273, 0, none⟩ = some (.string ((rd_T24 y269 x163_2).f0)) := (blk_cell BK273.out 0).trans rfl; have hcz115_1 : w113.cell? ⟨gb273, 1, none⟩ = some (.int .i64 ((rd_T24 y269 x163_2).f1)) := (blk_cell BK273.out 1).trans rfl; have hfz115_0 := blk_frozen BK273.out 0; have hfz115_1 := blk_frozen BK273.out 1) | ((with_reducible refine gate_callee (f := 25) rfl ?_); refine goesL_ (some 232) rfl rfl Try.func25 (by kernel_rfl) rfl #[.agg #[.string ((rd_T24 y269 x163_2).f0), .int .i64 ((rd_T24 y269 x163_2).f1)]] rfl (by (try simp only [List.map_toArray, List.map_cons, List.map_nil]); first | done | rfl | (simp only [List.length_drop, List.length_take]; rfl)) ?_; (with_reducible refine (columbariumref10_TakeList.calls k2 ((rd_T24 y269 x163_2).f0) ((rd_T24 y269 x163_2).f1) t300 t303 t304 t305 _ A81.out).mono ?_); rintro e w116 ⟨v301, rfl, ho0, hb⟩; refine ⟨_, rfl, ?_⟩; have n0_ := Aside0.mk (Kd.R_below (by (with_reducible repeat (first | apply Kd.R_alloc | apply Kd.R_drewN | apply Kd.R_drew)); exact (Kd.R_mono (Kd.R_far (p := ⟨gb278, 1, none⟩) (Kd.R_far (p := ⟨gb278, 0, none⟩) (Kd.R_mono HO_161.out (fun k_ hk => (⟨hk, hk.2.2.1⟩ : _ ∧ k_ ≠ gb278))) (fun _ hk => hk.2) (.string t297)) (fun _ hk => hk.2) (.int .i64 t298)) (fun _ h_ => h_.1))) hb); have n1_ := Aside0.mk (Kd.V_elder' (by (with_reducible repeat (first | apply Kd.V_alloc | apply Kd.V_drewN | apply Kd.V_drew)); exact (Kd.V_mono (Kd.V_far (p := ⟨gb278, 1, none⟩) (Kd.V_far (p := ⟨gb278, 0, none⟩) (Kd.V_mono HO296.out (fun k_ hk => (⟨hk, hk.2.2.2.1⟩ : _ ∧ k_ ≠ gb278))) (fun _ hk => hk.2) (.string t297)) (fun _ hk => hk.2) (.int .i64 t298)) (fun _ h_ => h_.1))) (Kd.R_base ho0) hb); have n2_ := Aside0.mk (Kd.R_lower ho0 (below_size (by repeat (first | (with_reducible first | exact HB.out | apply below_alloc | apply pw_below_drewN | apply below_drew1 | refine below_set ?_ GE246.out | refine below_set ?_ GE273.out | refine below_set ?_ GE278.out | refine below_set ?_ GE283.out) | exact HB.out)))); have n3_ := Aside0.mk (blk_below (g := gb246) (o := .cells #[.string a2_0, .int .i64 a2_1] 24 (0, 0)) (by (with_reducible repeat (first | refine blk_drewN ?_ _ | refine blk_drew ?_ | refine blk_alloc ?_ _)); refine blk_far ?_ NB246_278.out _; (with_reducible repeat (first | refine blk_drewN ?_ _ | refine blk_drew ?_ | refine blk_alloc ?_ _)); refine blk_far ?_ NB246_278.out _; (with_reducible repeat (first | refine blk_drewN ?_ _ | refine blk_drew ?_ | refine blk_alloc ?_ _)); exact BK246.out) hb); have n4_ := Aside0.mk (blk_below (g := gb273) (o := .cells #[.string ((rd_T24 y269 x163_2).f0), .int .i64 ((rd_T24 y269 x163_2).f1)] 24 (0, 0)) (by (with_reducible repeat (first | refine blk_drewN ?_ _ | refine blk_drew ?_ | refine blk_alloc ?_ _)); refine blk_far ?_ NB273_278.out _; (with_reducible repeat (first | refine blk_drewN ?_ _ | refine blk_drew ?_ | refine blk_alloc ?_ _)); refine blk_far ?_ NB273_278.out _; (with_reducible repeat (first | refine blk_drewN ?_ _ | refine blk_drew ?_ | refine blk_alloc ?_ _)); exact BK273.out) hb); have n5_ := Aside0.mk (blk_below (g := gb278) (o := .cells #[.string t297, .int .i64 t298] 24 (0, 0)) (by (with_reducible repeat (first | refine blk_drewN ?_ _ | refine blk_drew ?_ | refine blk_alloc ?_ _)); refine blk_put (cs := #[.string t297, .int .i64 t288]) ?_ 1 _ rfl; (with_reducible repeat (first | refine blk_drewN ?_ _ | refine blk_drew ?_ | refine blk_alloc ?_ _)); refine blk_put (cs := #[.string t287, .int .i64 t288]) ?_ 0 _ rfl; (with_reducible repeat (first | refine blk_drewN ?_ _ | refine blk_drew ?_ | refine blk_alloc ?_ _)); exact BK278.out) hb); have n6_ := Aside0.mk (blk_below (g := gb283) (o := .cells #[.string t291, .int .i64 t292] 24 (0, 0)) (by (with_reducible repeat (first | refine blk_drewN ?_ _ | refine blk_drew ?_ | refine blk_alloc ?_ _)); refine blk_far ?_ NB283_278.out _; (with_reducible repeat (first | refine blk_drewN ?_ _ | refine blk_drew ?_ | refine blk_alloc ?_ _)); refine blk_far ?_ NB283_278.out _; (with_reducible repeat (first | refine blk_drewN ?_ _ | refine blk_drew ?_ | refine blk_alloc ?_ _)); exact BK283.out) hb); have n7_ := Aside0.mk (below_step (by repeat (first | (with_reducible first | exact HB.out | apply below_alloc | apply pw_below_drewN | apply below_drew1 | refine below_set ?_ GE246.out | refine below_set ?_ GE273.out | refine below_set ?_ GE278.out | refine below_set ?_ GE283.out) | exact HB.out)) hb); clear HO_161; clear HO296; clear BK246; clear BK273; clear BK278; clear BK283; clear HB; have HO_161 := n0_; have HO296 := n1_; have HO302 := n2_; have BK246 := n3_; have BK273 := n4_; have BK278 := n5_; have BK283 := n6_; have HB := n7_; clear n0_ n1_ n2_ n3_ n4_ n5_ n6_ n7_; (try clear hb); (try clear hb2); (try clear hk); (try clear hi); (try clear ho0); have hcz117_0 : w116.cell? ⟨gb283, 0, none⟩ = some (.string t291) := (blk_cell BK283.out 0).trans rfl; have hcz117_1 : w116.cell? ⟨gb283, 1, none⟩ = some (.int .i64 t292) := (blk_cell BK283.out 1).trans rfl; have hfz117_0 := blk_frozen BK283.out 0; have hfz117_1 := blk_frozen BK283.out 1; obtain ⟨Ao118, co118, eo118⟩ := Kd.V_slice HO296.out; subst eo118; obtain ⟨Ao119, co119, eo119⟩ := Kd.R_slice HO302.out; subst eo119) | ((with_reducible refine gate_callee (f := 26) rfl ?_); refine goesL_ (some 238) rfl rfl Try.func26 (by kernel_rfl) rfl #[.slice Ao118 t294.length co118, .slice Ao119 t300.length co119] rfl (by (try simp only [List.map_toArray, List.map_cons, List.map_nil]); first | done | rfl | (simp only [List.length_drop, List.length_take]; rfl)) ?_; (with_reducible refine (columbariumref10_Texts.calls k2 _ _ t294 _ _ t300 true _ ?side1 ?side2 ?side3 ?side4 A82.out).mono ?_); (case side1 => refine (Kd.V_reads' (e := 9) (base := w.heap.size) (ok := fun k_ => ((some k_ ≠ (.slice (some ad272) y269.length co63 : Value).ownBlock ∧ (k_ ≠ gb246 ∧ (k_ ≠ gb273 ∧ (k_ ≠ gb278 ∧ k_ ≠ gb283)))) ∧ some k_ ≠ (.slice Ao119 t300.length co119 : Value).ownBlock)) (n := t294.length) (c := co118) ?_).2.2; exact (by (with_reducible repeat (first | apply Kd.V_alloc | apply Kd.V_drewN | apply Kd.V_drew)); exact (Kd.V_mono (Kd.V_far (p := ⟨gb283, 1, none⟩) (Kd.V_far (p := ⟨gb283, 0, none⟩) (Kd.V_mono HO296.out (fun k_ hk => (⟨hk, hk.1.2.2.2.2⟩ : _ ∧ k_ ≠ gb283))) (fun _ hk => hk.2) (.string t303)) (fun _ hk => hk.2) (.int .i64 t304)) (fun _ h_ => h_.1)))); (case side2 => exact (Kd.V_reads' HO296.out).2.1); (case side3 => refine (Kd.R_reads' (e := 9) (base := w.heap.size) (ok := fun k_ => True) (n := t300.length) (c := co119) ?_).2.2; exact (by (with_reducible repeat (first | apply Kd.R_alloc | apply Kd.R_drewN | apply Kd.R_drew)); exact (Kd.R_mono (Kd.R_far (p := ⟨gb283, 1, none⟩) (Kd.R_far (p := ⟨gb283, 0, none⟩) (Kd.R_types HO302.out BK283.out (by decide)) (fun _ hk => hk.2) (.string t303)) (fun _ hk => hk.2) (.int .i64 t304)) (fun _ h_ => h_.1)))); (case side4 => exact (Kd.R_reads' HO302.out).2.1); rintro e w' ⟨rfl, ⟨nd, rfl⟩⟩; refine ⟨_, rfl, ?_⟩; have hcz120_0 : w116.cell? ⟨gb278, 0, none⟩ = some (.string t297) := (blk_cell BK278.out 0).trans rfl; have hcz120_1 : w116.cell? ⟨gb278, 1, none⟩ = some (.int .i64 t298) := (blk_cell BK278.out 1).trans rfl; have hfz120_0 := blk_frozen BK278.out 0; have hfz120_1 := blk_frozen BK278.out 1))
                                                              go_roundg k2
                                                              case measure => have := HK1.out; have := HK2.out; omega
                                                              case rel => exact ⟨(wrap64 (x163_2 + 1)), (by first | rfl | (simp; done) | (simp [*]; done)), H', ⟨by have := HK1.out; have := HK2.out; omega⟩, ⟨by (with_reducible repeat (first | apply Kd.R_alloc | apply Kd.R_drewN | apply Kd.R_drew)); exact Kd.R_mono (Kd.R_far (p := ⟨gb283, 1, none⟩) (Kd.R_far (p := ⟨gb283, 0, none⟩) (Kd.R_mono HO_161.out (fun k_ hk => (⟨hk, hk.2.2.2⟩ : _ ∧ k_ ≠ gb283))) (fun _ hk => hk.2) (.string t303)) (fun _ hk => hk.2) (.int .i64 t304)) (fun _ hk => hk.1.1)⟩, ⟨by (with_reducible repeat (first | refine blk_drewN ?_ _ | refine blk_drew ?_ | refine blk_alloc ?_ _)); refine blk_far ?_ NB246_283.out _; (with_reducible repeat (first | refine blk_drewN ?_ _ | refine blk_drew ?_ | refine blk_alloc ?_ _)); refine blk_far ?_ NB246_283.out _; (with_reducible repeat (first | refine blk_drewN ?_ _ | refine blk_drew ?_ | refine blk_alloc ?_ _)); exact BK246.out⟩, ⟨by repeat (first | (with_reducible first | exact HB.out | apply below_alloc | apply pw_below_drewN | apply below_drew1 | refine below_set ?_ GE246.out | refine below_set ?_ GE273.out | refine below_set ?_ GE278.out | refine below_set ?_ GE283.out) | exact HB.out)⟩⟩
                                                            · rw [if_neg c85] at H
                                                              exact absurd H (by simp)
                                                        · replace c83 := Bool.eq_false_iff.mpr c83
                                                          subst c83
                                                          have H1 : (none) = some r := by rw [if_neg (show ¬ (false = true) by decide)] at H; exact H
                                                          clear H
                                                          have H := H1
                                                          clear H1
                                                          exact absurd H (by simp)
                                                      · rw [if_neg c79] at H
                                                        exact absurd H (by simp)
                                                  · rw [if_neg c77] at H
                                                    exact absurd H (by simp)
                                                · rw [if_neg c74] at H
                                                  exact absurd H (by simp)
                                              · rw [if_neg c71] at H
                                                have c71b0 : (t277 == t282) = false := beq_eq_false_iff_ne.mpr c71
                                                have c71b1 : (t277 != t282) = true := bne_iff_ne.mpr c71
                                                exact absurd H (by simp)
                                          · rw [if_neg c69] at H
                                            have c69b0 : (t274 == t279) = false := beq_eq_false_iff_ne.mpr c69
                                            have c69b1 : (t274 != t279) = true := bne_iff_ne.mpr c69
                                            exact absurd H (by simp)
                                        · rw [if_neg c66] at H
                                          exact absurd H (by simp)
                                      · rw [if_neg c65] at H
                                        exact absurd H (by simp)
                                    · rw [if_neg c64] at H
                                      have c64b0 : decide (x163_2 < (y269.length : Int)) = false := decide_eq_false c64
                                      clear c64
                                      obtain rfl := Option.some.inj H
                                      go_wp2
                                      go_ret
                                      exact ⟨by first | rfl | (simp [errW_none, errW_some] <;> rfl) | (simp only [← hji27]; first | rfl | (simp [errW_none, errW_some] <;> rfl)) | (simp [*, errW_none, errW_some] <;> rfl), by repeat (first | (with_reducible first | exact HB.out | apply below_alloc | apply pw_below_drewN | apply below_drew1 | refine below_set ?_ GE246.out) | exact HB.out)⟩
                              · rw [if_neg c52] at H
                                exact absurd H (by simp)
                            · rw [if_neg c51] at H
                              exact absurd H (by simp)
                          · rw [if_neg c48] at H
                            exact absurd H (by simp)
                        · rw [if_neg c45] at H
                          exact absurd H (by simp)
                      · rw [if_neg c44] at H
                        exact absurd H (by simp)
                  · rw [if_neg c33] at H
                    have c33b0 : (t265 == t267) = false := beq_eq_false_iff_ne.mpr c33
                    have c33b1 : (t265 != t267) = true := bne_iff_ne.mpr c33
                    by_cases c121 : t247 = true
                    · subst c121
                      have H1 : (none) = some r := by rw [if_pos rfl] at H; exact H
                      clear H
                      have H := H1
                      clear H1
                      exact absurd H (by simp)
                    · replace c121 := Bool.eq_false_iff.mpr c121
                      subst c121
                      have H1 : (none) = some r := by rw [if_neg (show ¬ (false = true) by decide)] at H; exact H
                      clear H
                      have H := H1
                      clear H1
                      exact absurd H (by simp)
                · rw [if_neg c32] at H
                  have c32b0 : (t264.toList == t266.toList) = false := beq_eq_false_iff_ne.mpr c32
                  have c32b1 : (t264.toList != t266.toList) = true := bne_iff_ne.mpr c32
                  by_cases c122 : t247 = true
                  · subst c122
                    have H1 : (none) = some r := by rw [if_pos rfl] at H; exact H
                    clear H
                    have H := H1
                    clear H1
                    exact absurd H (by simp)
                  · replace c122 := Bool.eq_false_iff.mpr c122
                    subst c122
                    have H1 : (none) = some r := by rw [if_neg (show ¬ (false = true) by decide)] at H; exact H
                    clear H
                    have H := H1
                    clear H1
                    exact absurd H (by simp)
              · rw [if_neg c29] at H
                exact absurd H (by simp)
            · rw [if_neg c28] at H
              exact absurd H (by simp)
          · rw [if_neg c26] at H
            exact absurd H (by simp)
        · rw [if_neg c25] at H
          exact absurd H (by simp)

end Go.Proofs.Ytmddhiokioojlaa.A
