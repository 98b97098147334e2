/- codec.List, walked by hand: the builder is filled in a loop over an iterator. -/
import Derived.Test.YtmddhiokioojlaaHandFramed
namespace Go.Proofs.Ytmddhiokioojlaa.A
open Go.RowKit Go.Shelf Go.Proofs.YtmddhiokioojlaaW.PrintWords Go.Proofs.YtmddhiokioojlaaW.PrintLast Go.Proofs.YtmddhiokioojlaaW.PrintMore
attribute [local go_sem] Oper.semAt_some
set_option linter.unusedVariables false
set_option linter.unusedSimpArgs false

/-- What is in the builder when these have come; none: it has become too long, or one was. -/
def runL : ByteArray → List Fr → Option ByteArray
  | acc, [] => some acc
  | acc, x :: r => if x.1.2 = true ∧ (acc ++ x.1.1).size ≤ 65536 then runL (acc ++ x.1.1) r else none
theorem runL_append (acc : ByteArray) (a b : List Fr) : runL acc (a ++ b) = (runL acc a).bind fun acc' => runL acc' b := by
  induction a generalizing acc with
  | nil => rfl
  | cons x r ih =>
    simp only [List.cons_append, runL]
    split
    · exact ih _
    · rfl
theorem runL_le {acc acc' : ByteArray} {a : List Fr} (h : runL acc a = some acc') (h0 : acc.size ≤ 65536) : acc'.size ≤ 65536 := by
  induction a generalizing acc with
  | nil => obtain rfl : acc = acc' := Option.some.inj h; exact h0
  | cons x r ih =>
    simp only [runL] at h
    split at h
    · rename_i hx; exact ih h hx.2
    · cases h

theorem runL_pos {m acc : ByteArray} {pre : List Fr} {x : Fr} (h : runL m pre = some acc) (h1 : x.1.2 = true) (h2 : (acc ++ x.1.1).size ≤ 65536) : runL m (pre ++ [x]) = some (acc ++ x.1.1) := by
  rw [runL_append, h]
  show runL acc [x] = _
  unfold runL
  rw [if_pos ⟨h1, h2⟩]; rfl
theorem runL_neg {m acc : ByteArray} {pre : List Fr} {x : Fr} (h : runL m pre = some acc) (h1 : ¬ (x.1.2 = true ∧ (acc ++ x.1.1).size ≤ 65536)) : runL m (pre ++ [x]) = none := by
  rw [runL_append, h]
  show runL acc [x] = _
  unfold runL
  rw [if_neg h1]

def numB (n : Int) : ByteArray := strOfNums ([(n / 16777216) % 256, (n / 65536) % 256, (n / 256) % 256, n % 256] : List Int)
theorem numB_size (n : Int) : (numB n).size = 4 := rfl
theorem number_some (n : Int) (h0 : 0 ≤ n) (h1 : n ≤ 2147483647) : codec_Number.f n = some (numB n, 0) := by
  unfold codec_Number.f
  rw [if_neg (by omega), if_neg (by omega)]; rfl

def listOf (l0 : List ByteArray) : ByteArray × Int :=
  if l0.length > 1000 then (⟨#[]⟩, 2) else
    match runL (numB l0.length) (l0.map frOf) with
    | some acc => (acc, 0)
    | none => (⟨#[]⟩, 2)
def codec_List.f (l0 : List ByteArray) : Option (ByteArray × Int) := some (listOf l0)

theorem builder_own {β : Type} (T e B b : Nat) (f : β → List Value) : Own (fun s W => Lib.IsBuilderF T e B b (f s) W) := by
  have key : ∀ {p : Value} {s : β} {X Y : World} {row : Option Nat}, Lib.BuilderAtF T e B b p (f s) X → X.grownBy Y row → (∀ r, row = some r → ∃ o : Obj, X.heap[r]? = some o ∧ o.isCells = false) → Lib.BuilderAtF T e B b p (f s) Y := by
    rintro p s X Y row ⟨hB, v, hb, hown, hne⟩ hg hr
    refine ⟨hB, v, (grownBy_keeps_cells hg hr hb rfl).trans hb, hown.kept hg ?_, hne⟩
    rcases hown.2 with ⟨rfl, _⟩ | ⟨g, cap, cur, fz, rfl, _, hgg, _⟩
    · exact .inl rfl
    · refine .inr fun e' => ?_
      obtain ⟨o, ho, hc⟩ := hr g (by simpa [Value.ownBlock] using e'.symm)
      rw [hgg] at ho; cases ho; cases hc
  rintro s X Y row (h | h) hg hr
  · exact .inl (key h hg hr)
  · exact .inr (key h hg hr)
theorem cell_own {β : Type} (a : Addr) (v : Value) : Own (fun (_ : β) W => W.cell? a = some v ∧ W.frozen? a = false) :=
  fun s A B row hs hg hr => ⟨cell_kept hs.1 hg hr, (frozen_kept hs.1 hg hr).trans hs.2⟩

set_option maxRecDepth 100000 in
set_option maxHeartbeats 4000000 in
theorem codec_List.calls (A0 : Option Addr) (c0 : Nat) (l0 : List ByteArray) (r1 : ByteArray) (r2 : Int) (w : World) (hr0 : Kd.C Kd.string w A0 l0.length l0) (hc0 : l0.length ≤ c0) (h : codec_List.f l0 = some (r1, r2)) :
    Calls Try.prog 14 #[.slice A0 l0.length c0] w fun e w' => e = .returned (.tuple #[.string r1, .int .i64 r2]) ∧ Below w.heap.size w w' := by
  have H := Aside0.mk (Option.some.inj h)
  clear h
  by_cases hlong : l0.length > 1000
  · have h1 : listOf l0 = (⟨#[]⟩, 2) := by unfold listOf; rw [if_pos hlong]
    have h2 := H.out
    rw [h1] at h2
    obtain ⟨rfl, rfl⟩ := Prod.mk.inj h2
    clear h1 h2 H
    have hl : decide (1000 < (l0.length : Int)) = true := by simp; omega
    go_enter Try.func14, Try.ntmps14
    go_wp2
    exact bodyPost_ret (v := .tuple #[.string ⟨#[]⟩, .int .i64 2]) (by simp [results, Try.f14, go_sem]) rfl ⟨rfl, ((Below.refl _ w).alloc (Nat.le_refl _) _).alloc (by simp) _⟩
  · refine (callsIn_wide (n := 3)).1 ?_
    refine callsIn_of_wp_marks Try.func14 rfl trivial ?_ rfl
    simp only [Try.ntmps14, List.size_toArray, List.length_cons, List.length_nil, Nat.reduceAdd, Nat.reduceSub, Array.replicate_succ, Array.replicate_zero, List.push_toArray, List.append_toArray, List.nil_append, List.cons_append]
    have hl : decide (1000 < (l0.length : Int)) = false := by simp; omega
    have hn := number_some l0.length (by omega) (by omega)
    gi_wp2_with (refine ⟨trivial, ?_⟩; gi_at_call 11; refine (callsIn_wide.2 (codec_Number.calls _ _ _ _ hn)).mono ?_; rintro e w1 ⟨rfl, hb1⟩)
    have hBw : Below w.heap.size w w1 := (((((Below.refl _ w).alloc (Nat.le_refl _) _).alloc (by simp) _).alloc (by simp; omega) _)).trans (hb1.mono (by simp; omega))
    have hsz1 : w.heap.size + 3 ≤ w1.heap.size := by have := hb1.size; simp at this; omega
    have b2 : Boxed w1 w.heap.size 9 (.string ⟨#[]⟩) := (hb1.block _ (by simp; omega)).trans ((((Boxed.new w 9 (.string ⟨#[]⟩)).alloc _).alloc _))
    have b3 : Boxed w1 (w.heap.size + 1) 28 (.int .i64 0) := (hb1.block _ (by simp)).trans (by have := (Boxed.new (w.alloc (.cells #[.string ⟨#[]⟩] 9)) 28 (.int .i64 0)).alloc (.cells #[.pointer none, .slice none 0 0] 54); rw [World.size_alloc] at this; exact this)
    have hbld : Lib.IsBuilderF 54 5 w.heap.size (w.heap.size + 1 + 1) [] w1 := by
      refine .inl ⟨by omega, .slice none 0 0, (hb1.block _ (by simp)).trans ?_, World.ownsRowF_of (World.ownsRow_nil _ _ _ _), by simp [Value.ownBlock]⟩
      have := World.alloc_heap_new ((w.alloc (.cells #[.string ⟨#[]⟩] 9)).alloc (.cells #[.int .i64 0] 28)) (.cells #[.pointer none, .slice none 0 0] 54)
      simpa using this
    clear hb1
    gi_wp2_with (refine ⟨trivial, ?_⟩; gi_at_call 27; refine (callsIn_wide.2 (WriteString_k w.heap.size (w.heap.size + 1 + 1) [] _ _ hbld (by simp only [List.length_nil, numB_size]; omega) (by omega))).mono ?_)
    rintro e w2 ⟨rfl, hBA, hb2, hk2⟩
    have b2' : Boxed w2 w.heap.size 9 (.string ⟨#[]⟩) := hk2 _ _ b2 (by simp; omega) (fun c fz e' => by cases e')
    have b3' : Boxed w2 (w.heap.size + 1) 28 (.int .i64 0) := hk2 _ _ b3 (by simp) (fun c fz e' => by cases e')
    have hBw2 := hBw.trans hb2
    have hsz2 : w.heap.size + 3 ≤ w2.heap.size := Nat.le_trans hsz1 hb2.size
    clear hbld b2 b3 hk2 hBw hb2 hsz1
    gi_wp2_with (refine ⟨trivial, ?_⟩; gi_at_call 28; refine (framed_in _ _ _ _ _).mono ?_; rintro e w' ⟨rfl, rfl⟩)
    have hI0 : Lib.IsBuilderF 54 5 w.heap.size (w.heap.size + 1 + 1) (Lib.strCells (numB l0.length)) w2 := .inr (by simpa using hBA)
    have bS := Boxed.new w2 22 (.slice A0 l0.length c0)
    obtain ⟨m, hm⟩ : ∃ m, numB (l0.length : Int) = m := ⟨_, rfl⟩
    have hm4 : m.size ≤ 4 := by rw [← hm]; exact Nat.le_refl _
    have HM4 := Aside0.mk (show m.size = 4 by rw [← hm]; rfl)
    rw [hm] at hI0 ⊢
    have HM := Aside0.mk hm
    clear hm hBA hn
    refine wpIn_rangeFunc_ownF (n := 3) rfl (by omega) (gf := 39) (lb := #[.pointer (some ⟨w2.heap.size, 0, none⟩)]) rfl trivial (enters_of Try.func39 (by kernel_rfl) rfl)
      (framed_stops 2 (by omega) w2.heap.size w.heap.size A0 c0 l0 hc0 (w2.alloc (.cells #[.slice A0 l0.length c0] 22)) (by simp) (by simp; omega) bS.cell (Kd.F_below (Kd.F_step (Kd.C_F Kd.heap_string hr0) (fun k hk _ => hBw2.block k hk)) (below_alloc (Below.refl _ _) _))) belowK_t (belowK_b (by simp; omega)) (Below.refl _ _) (fun _ => rfl)
      (fun pre W => ∃ acc, runL m pre = some acc ∧ Lib.IsBuilderF 54 5 w.heap.size (w.heap.size + 1 + 1) (Lib.strCells acc) W ∧ Boxed W w.heap.size 9 (.string ⟨#[]⟩) ∧ Boxed W (w.heap.size + 1) 28 (.int .i64 0) ∧ Below w.heap.size w W)
      (fun c pre W => c = .ret ∧ runL m pre = none ∧ Boxed W w.heap.size 9 (.string ⟨#[]⟩) ∧ Boxed W (w.heap.size + 1) 28 (.int .i64 2) ∧ Below w.heap.size w W)
      ?hI ?hIx ⟨m, rfl, ?h01, b2'.alloc _, b3'.alloc _, below_alloc hBw2 _⟩
      (fun x => { tmps := #[.slice A0 l0.length c0, undef, .pointer (some ⟨w.heap.size, 0, none⟩), .pointer (some ⟨w.heap.size + 1, 0, none⟩), .pointer (some ⟨w.heap.size + 1 + 1, 0, none⟩), .string m, .int .i64 0, .string x.1.1, .bool x.1.2, .slice A0 l0.length c0, .int .i64 l0.length, .bool false, .tuple #[.string m, .int .i64 0], .slice A0 l0.length c0, .int .i64 l0.length, .tuple #[.string m, .int .i64 0], .string m, .int .i64 0, .string m, .tuple #[.int .i64 m.size, .nilIface], .slice A0 l0.length c0, .func (.func 39) #[] #[.pointer (some ⟨w2.heap.size, 0, none⟩)], .string x.1.1, .bool x.1.2, undef, undef, undef, undef, undef, undef, undef, undef, undef], defers := [] }) ?assign ?body ?done ?stop
    case hI =>
      rintro pre X Y row ⟨acc, h1, h2, h3, h4, h5⟩ hg hr
      exact ⟨acc, h1, builder_own (β := Unit) _ _ _ _ (fun _ => Lib.strCells acc) () X Y row h2 hg (fun r e => (hr r e).2), boxed_own (β := Unit) _ _ (fun _ => _) () X Y row h3 hg (fun r e => (hr r e).2), boxed_own (β := Unit) _ _ (fun _ => _) () X Y row h4 hg (fun r e => (hr r e).2), h5.grown hg h5.size (fun k e => by have := (hr k e).1; simp at this; omega)⟩
    case hIx =>
      rintro c pre X Y row ⟨h0, h1, h3, h4, h5⟩ hg hr
      exact ⟨h0, h1, boxed_own (β := Unit) _ _ (fun _ => _) () X Y row h3 hg (fun r e => (hr r e).2), boxed_own (β := Unit) _ _ (fun _ => _) () X Y row h4 hg (fun r e => (hr r e).2), h5.grown hg h5.size (fun k e => by have := (hr k e).1; simp at this; omega)⟩
    case h01 => exact hI0.alloc _
    case assign =>
      intro l x W K hK
      gi_wp2
      exact hK
    case body =>
      rintro l pre ⟨⟨xs, xb⟩, hxs⟩ W ⟨acc, hr, hbld, hb2, hb3, hbl⟩ hlt
      have hacc := runL_le hr (by omega)
      dsimp only at hxs
      have hlen : (Lib.strCells acc).length + xs.size ≤ 140737488355328 := by rw [Lib.strCells_length]; omega
      gi_wp2_with (refine ⟨trivial, ?_⟩; gi_at_call 27; refine (CallsIn.inRound l (callsIn_wide.2 (WriteString_k w.heap.size (w.heap.size + 1 + 1) (Lib.strCells acc) xs W hbld hlen hbl.size))).mono ?_)
      rintro e W1 ⟨rfl, hBA, hb, hk⟩
      have hcs : Lib.strCells acc ++ Lib.strCells xs = Lib.strCells (acc ++ xs) := by simp [Lib.strCells, ByteArray.data_append]
      rw [hcs] at hBA
      clear hcs
      have hbb : ∃ o : Obj, W.heap[w.heap.size + 1 + 1]? = some o ∧ o.isCells = true := by
        rcases hbld with ⟨_, v, hv, _⟩ | ⟨_, v, hv, _⟩
        · exact ⟨_, hv, rfl⟩
        · exact ⟨_, hv, rfl⟩
      have hKO : KeepsOthers W W1 := ⟨hb.size, fun k o h ho => hk k o h (fun e' => by
        obtain ⟨o', ho', hc'⟩ := hbb
        cases e'
        rw [ho'] at h; cases h; rw [hc'] at ho; cases ho) (fun c fz e' => by subst e'; cases ho)⟩
      have hb2' : Boxed W1 w.heap.size 9 (.string ⟨#[]⟩) := hk _ _ hb2 (by simp; omega) (fun c fz e' => by cases e')
      have hb3' : Boxed W1 (w.heap.size + 1) 28 (.int .i64 0) := hk _ _ hb3 (by simp) (fun c fz e' => by cases e')
      have hbl1 := hbl.trans hb
      have hBw1 := hbl1.size
      have hc2 := hb2'.cell
      have hf2 := hb2'.frozen
      have hc3 := hb3'.cell
      have hf3 := hb3'.frozen
      have hbld1 : Lib.IsBuilderF 54 5 w.heap.size (w.heap.size + 1 + 1) (Lib.strCells (acc ++ xs)) W1 := .inr hBA
      have HR := Aside0.mk hr
      have hd : 1 ≤ 3 - 1 - 1 := by omega
      clear hr hbb hk hBA hlen hbld hb2 hb3
      cases xb with
      | false =>
        gi_wp2
        refine ⟨trivial, ?_⟩
        gi_wp2
        refine ⟨(hKO.trans (KeepsOthers.setCell _ _ _)).trans (KeepsOthers.setCell _ _ _), rfl, ?_, ?_, ?_, ?_⟩
        · exact runL_neg HR.out (fun hh => by cases hh.1)
        · exact (hb2'.set _).other (by omega) _
        · exact (hb3'.other (by omega) _).set _
        · exact (hbl1.setCell (p := ⟨w.heap.size, 0, none⟩) (Nat.le_refl _) _).setCell (p := ⟨w.heap.size + 1, 0, none⟩) (Nat.le_succ _) _
      | true =>
        by_cases h6 : (acc ++ xs).size ≤ 65536
        · have h6b : decide (65536 < ((Lib.strCells (acc ++ xs)).length : Int)) = false := by rw [Lib.strCells_length]; simp only [decide_eq_false_iff_not]; omega
          gi_wp2_with (refine ⟨trivial, ?_⟩; gi_at_call 29; refine (CallsIn.inRound l (callsIn_wide.2 (Try.Builder_Len_f w.heap.size (w.heap.size + 1 + 1) _ W1 hbld1))).mono ?_; rintro e w' ⟨rfl, rfl⟩)
          exact ⟨hKO, hb, acc ++ xs, runL_pos HR.out rfl h6, hbld1, hb2', hb3', hbl1⟩
        · have h6b : decide (65536 < ((Lib.strCells (acc ++ xs)).length : Int)) = true := by rw [Lib.strCells_length]; simp only [decide_eq_true_eq]; omega
          gi_wp2_with (refine ⟨trivial, ?_⟩; gi_at_call 29; refine (CallsIn.inRound l (callsIn_wide.2 (Try.Builder_Len_f w.heap.size (w.heap.size + 1 + 1) _ W1 hbld1))).mono ?_; rintro e w' ⟨rfl, rfl⟩)
          refine ⟨(hKO.trans (KeepsOthers.setCell _ _ _)).trans (KeepsOthers.setCell _ _ _), rfl, ?_, ?_, ?_, ?_⟩
          · exact runL_neg HR.out (fun hh => h6 hh.2)
          · exact (hb2'.set _).other (by omega) _
          · exact (hb3'.other (by omega) _).set _
          · exact (hbl1.setCell (p := ⟨w.heap.size, 0, none⟩) (Nat.le_refl _) _).setCell (p := ⟨w.heap.size + 1, 0, none⟩) (Nat.le_succ _) _
    case done =>
      rintro D ys W hD rfl ⟨acc, hr, hbld, hb2, hb3, hbl⟩ hK
      have hs : Lib.strCells acc = Lib.byteCells acc.data.toList := rfl
      rw [hs] at hbld
      have HR := Aside0.mk hr
      clear hr hs
      gi_wp2_with (refine ⟨trivial, ?_⟩; gi_at_call 30; refine (callsIn_wide.2 (Try.Builder_String_any_k w.heap.size (w.heap.size + 1 + 1) _ W hbld hbl.size)).mono ?_)
      rintro e W1 ⟨rfl, hB1, hb, hk⟩
      have hb2' : Boxed W1 w.heap.size 9 (.string ⟨#[]⟩) := hk _ _ hb2 (by simp; omega) (fun c fz e' => by cases e')
      have hb3' : Boxed W1 (w.heap.size + 1) 28 (.int .i64 0) := hk _ _ hb3 (by simp) (fun c fz e' => by cases e')
      have hc2 := hb2'.cell
      have hf2 := hb2'.frozen
      have hc3 := hb3'.cell
      have hf3 := hb3'.frozen
      have hK1 : W1.heap[D]? = some (.deferred (some [])) := hk _ _ hK (by simp at hD; simp; omega) (fun c fz e' => by cases e')
      clear hb2 hb3 hK hbld hk
      gi_wp2
      have hK2 := ((KeepsOthers.setCell W1 ⟨w.heap.size, 0, none⟩ (.string ⟨acc.data⟩)).trans (KeepsOthers.setCell _ ⟨w.heap.size + 1, 0, none⟩ (.int .i64 0))).same D _ hK1 rfl
      have hlast : listOf l0 = (acc, 0) := by unfold listOf; rw [if_neg hlong, HM.out, HR.out]
      have h9 := H.out
      rw [hlast] at h9
      obtain ⟨rfl, rfl⟩ := Prod.mk.inj h9
      have g2 := ((hb2'.set (.string ⟨acc.data⟩)).other (B' := w.heap.size + 1) (by omega) (.int .i64 0))
      have g3 := ((hb3'.other (B' := w.heap.size) (by omega) (.string ⟨acc.data⟩)).set (.int .i64 0))
      have gB := ((hbl.trans hb).setCell (p := ⟨w.heap.size, 0, none⟩) (Nat.le_refl _) (.string ⟨acc.data⟩)).setCell (p := ⟨w.heap.size + 1, 0, none⟩) (Nat.le_succ _) (.int .i64 0)
      generalize (W1.setCell ⟨w.heap.size, 0, none⟩ (.string ⟨acc.data⟩)).setCell ⟨w.heap.size + 1, 0, none⟩ (.int .i64 0) = W2 at *
      refine ⟨by simp, .inl ⟨_, _, rfl, run_takeDeferred hK2, ?_⟩⟩
      have c2 := cell_kept g2.cell (grownBy_putObj' _ D (.deferred none)) (fun r e => by cases e; exact ⟨_, hK2, rfl⟩)
      have c3 := cell_kept g3.cell (grownBy_putObj' _ D (.deferred none)) (fun r e => by cases e; exact ⟨_, hK2, rfl⟩)
      refine ⟨.tuple #[.string acc, .int .i64 0], by simp [results, Try.f14, go_sem, c2, c3], rfl, gB.trans (belowK_b (w := w) (Nat.le_refl _) W2 D _ _ (by simp at hD; omega) hK2 rfl rfl)⟩
    case stop =>
      rintro D c pre W hD ⟨post, hpre⟩ ⟨rfl, hr, hb2, hb3, hbl⟩ hK
      have hlast : listOf l0 = (⟨#[]⟩, 2) := by unfold listOf; rw [if_neg hlong, HM.out, ← hpre, runL_append, hr]; rfl
      have h9 := H.out
      rw [hlast] at h9
      obtain ⟨rfl, rfl⟩ := Prod.mk.inj h9
      clear hr
      gi_wp2
      refine ⟨by simp, .inl ⟨_, _, rfl, run_takeDeferred hK, ?_⟩⟩
      have c2 := cell_kept hb2.cell (grownBy_putObj' _ D (.deferred none)) (fun r e => by cases e; exact ⟨_, hK, rfl⟩)
      have c3 := cell_kept hb3.cell (grownBy_putObj' _ D (.deferred none)) (fun r e => by cases e; exact ⟨_, hK, rfl⟩)
      refine ⟨.tuple #[.string ⟨#[]⟩, .int .i64 2], by simp [results, Try.f14, go_sem, c2, c3], rfl, hbl.trans (belowK_b (w := w) (Nat.le_refl _) W D _ _ (by simp at hD; omega) hK rfl rfl)⟩
end Go.Proofs.Ytmddhiokioojlaa.A
