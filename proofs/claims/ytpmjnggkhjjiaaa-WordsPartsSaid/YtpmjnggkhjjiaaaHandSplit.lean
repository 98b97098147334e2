/- words.Split, walked by hand: a loop over rows that collects. -/
import Derived.Test.YtpmjnggkhjjiaaaHandRows
namespace Go.Proofs.Ytpmjnggkhjjiaaa.A
open Go.RowKit Go.Shelf Go.Proofs.YtpmjnggkhjjiaaaW.PrintWords Go.Proofs.YtpmjnggkhjjiaaaW.PrintLast Go.Proofs.YtpmjnggkhjjiaaaW.PrintMore
attribute [local go_sem] Oper.semAt_some
set_option linter.unusedVariables false
set_option linter.unusedSimpArgs false

theorem StepU.lower {B B' : Nat} {a b : World} (h : StepU B a b) (hB : B' ≤ B) : StepU B' a b :=
  ⟨h.1, h.2.1, h.2.2.1, h.2.2.2.1, fun k o ho hc => h.2.2.2.2 k o ho (hc.imp (fun h => Nat.lt_of_lt_of_le h hB) id)⟩
theorem putObj_sameRest (W : World) (l : Nat) (o : Obj) : (W.putObj l o).heap.size = W.heap.size ∧ ∀ k, k ≠ l → (W.putObj l o).heap[k]? = W.heap[k]? :=
  ⟨by simp, fun k hk => World.putObj_heap_other (fun e => hk e)⟩
theorem KeepU.putObj {W : World} {l : Nat} {o o' : Obj} (hl : W.heap[l]? = some o) (ho : o.isCells = false) : KeepU W (W.putObj l o') :=
  ⟨Nat.le_of_eq (putObj_sameRest W l o').1.symm, fun k cs fz hk => ((putObj_sameRest W l o').2 k (fun e => by subst e; rw [hl] at hk; cases hk; cases ho)).trans hk⟩
theorem KeepU.trans {a b c : World} (h : KeepU a b) (k : KeepU b c) : KeepU a c := ⟨Nat.le_trans h.1 k.1, fun i cs fz hi => k.2 i cs fz (h.2 i cs fz hi)⟩

/-- How the body of a round goes on: what is no cells lies as it lay, and rows of bytes; the next word has come. -/
def rowsPost (I : List ByteArray → World → Prop) (xs : List ByteArray) (W : World) : Exit → Act → World → Prop
  | .normal, _, W' => KeepsOthers W W' ∧ KeepU W W' ∧ I xs W'
  | _, _, _ => False

set_option maxHeartbeats 1000000 in
/-- A loop over rows(s): the body, walked once; it never leaves early. -/
theorem wpIn_rows {n : Nat} {g : Operand} {ps : Array Tmp} {assign body : Code} {Q : Exit → Act → World → Prop} {a : Act} {w : World} (hn : 2 ≤ n) {Bs : Nat} {s : ByteArray} (hs : s.size ≤ 2000)
    (hg : a.eval g = .func (.func 26) #[] #[.pointer (some ⟨Bs, 0, none⟩)]) (hBs : w.cell? ⟨Bs, 0, none⟩ = some (.string s)) (hBl : Bs < w.heap.size) (hps : ps.size = 1)
    (I : List ByteArray → World → Prop) (hI : ∀ pre A B, I pre A → StepU w.heap.size A B → I pre B) (hIp : ∀ pre A l o o', I pre A → w.heap.size ≤ l → A.heap[l]? = some o → o.isCells = false → I pre (A.putObj l o'))
    (h0 : I [] w) (a₁ : ByteArray → Act)
    (hassign : ∀ (l : Nat) (x : ByteArray) (W : World) (K : Act → World → Prop), K (a₁ x) W →
      assign.wpIn (Fence.wide.inRound l) (n - 1 - 1) Try.prog (Exit.then K (fun _ _ _ => False)) { tmps := (ps.zip #[Value.string x]).foldl (fun t (p, v) => t.setIfInBounds p v) a.tmps, defers := [] } W)
    (hbody : ∀ (l : Nat) (pre : List ByteArray) (x : ByteArray) (W : World), I pre W → pre.length < 2001 → body.wpIn (Fence.wide.inRound l) (n - 1 - 1) Try.prog (rowsPost I (pre ++ [x]) W) (a₁ x) W)
    (hdone : ∀ (D : Nat) (W : World), w.heap.size ≤ D → I (wordsOf s) W → W.heap[D]? = some (.deferred (some [])) → Q .normal { a with defers := { target := .collected D, args := #[] } :: a.defers } W) :
    (Code.rangeFunc g ps assign body).wpIn Fence.wide n Try.prog Q a w := by
  refine wpIn_rangeFunc ?_
  intro fn hfn
  obtain ⟨rec, hrec⟩ : ∃ rec : LoopState → Loop, rec = fun st => { state := st, pending := none, fn, tmps := a.tmps, params := ps, assign, body, defers := w.heap.size } := ⟨_, rfl⟩
  obtain ⟨W1, hW1⟩ : ∃ W1, (w.alloc (.deferred (some []))).alloc (.loop (rec .ready)) = W1 := ⟨_, rfl⟩
  have hs1 : W1.heap.size = w.heap.size + 2 := by rw [← hW1]; simp
  have hb1 : Below w.heap.size w W1 := by rw [← hW1]; exact ((Below.refl _ w).alloc (Nat.le_refl _) _).alloc (by simp) _
  have hL1 : W1.heap[w.heap.size + 1]? = some (.loop (rec .ready)) := by
    rw [← hW1]; have := World.alloc_heap_new (w.alloc (.deferred (some []))) (.loop (rec .ready)); rwa [World.size_alloc] at this
  have hK1 : W1.heap[w.heap.size]? = some (.deferred (some [])) := by
    rw [← hW1]; exact (Below.heap_alloc _ _ _ (by simp)).trans (World.alloc_heap_new w _)
  refine ⟨w.heap.size + 1, [{ target := .collected w.heap.size, args := #[] }], W1, { target := .fn (.func 26) #[.pointer (some ⟨Bs, 0, none⟩)], args := #[.func (.yield (w.heap.size + 1)) #[] #[]] }, W1, 26,
    #[.func (.yield (w.heap.size + 1)) #[] #[], .pointer (some ⟨Bs, 0, none⟩)], W1, ?_, ?_, ?_, ?_, fun _ => by omega, ?_⟩
  · rw [← hW1, hrec]; exact run_enterLoop_outer _ _ _ _ _
  · simp only [resolve, hg]
    simp [go_sem]
  · intro f' hf'; trivial
  · have := enters_of Try.func26 (by kernel_rfl) rfl
    simp [invoke, go_sem, this]
  · have nu : ∀ {A : World} {k : Nat} {o : Obj}, A.heap[k]? = some o → o.isCells = false → ∀ (cs : Array Value) (fz : Nat × Nat), o ≠ Obj.cells cs 5 fz := fun _ ho cs fz e => by rw [e] at ho; cases ho
    refine (rows1_in (n - 1) (by omega) (w.heap.size + 1) Bs s hs
      (fun pre W => I pre W ∧ W.heap[w.heap.size + 1]? = some (.loop (rec .ready)) ∧ W.heap[w.heap.size]? = some (.deferred (some [])))
      W1 (fun pre A B hA hU => ⟨hI pre A B hA.1 (hU.lower (by omega)), hU.2.2.2.2 _ _ hA.2.1 (.inr (nu hA.2.1 rfl)), hU.2.2.2.2 _ _ hA.2.2 (.inr (nu hA.2.2 rfl))⟩)
      ?_ ((hb1.cell (p := ⟨Bs, 0, none⟩) hBl).trans hBs) ⟨hI [] w W1 h0 (StepU.of_below hb1), hL1, hK1⟩).mono ?_
    · rintro pre x W ⟨hi, hl, hk⟩ hlen
      have hlt : w.heap.size + 1 < W.heap.size := (Array.getElem?_eq_some_iff.1 hl).1
      have hy := run_yield (P := Try.prog) (args := #[Value.string x]) hl (by rw [hrec]; exact hps.symm)
      rw [hrec] at hy
      refine ⟨fn, _, assign, body, hy, roundIn_of_wpIn hfn (hassign _ x W _ ⟨_, run_beginRound hl (by rw [hrec]), ?_⟩)⟩
      have hk0 := KeepU.putObj (o' := .loop { rec .ready with state := .busy }) hl rfl
      obtain ⟨W2, hW2⟩ : ∃ W2, W.putObj (w.heap.size + 1) (.loop { rec .ready with state := .busy }) = W2 := ⟨_, rfl⟩
      have hl2 : W2.heap[w.heap.size + 1]? = some (.loop { rec .ready with state := .busy }) := by rw [← hW2]; exact World.putObj_heap_same hlt
      have hk2 : W2.heap[w.heap.size]? = some (.deferred (some [])) := by rw [← hW2]; exact (World.putObj_heap_other (by omega)).trans hk
      have hi2 : I pre W2 := by rw [← hW2]; exact hIp _ _ _ _ _ hi (by omega) hl rfl
      rw [hW2] at hk0 ⊢
      refine wpIn_mono (hbody _ pre x _ hi2 hlen) ?_
      rintro e a3 W3 hp
      cases e with
      | normal =>
        obtain ⟨h3, h4, h5⟩ := hp
        have hl3 := h3.same _ _ hl2 rfl
        have hk3 := h3.same _ _ hk2 rfl
        have hr := run_endRound (P := Try.prog) none hl3
        refine ⟨_, _, hr, rfl, ⟨hIp _ _ _ _ _ h5 (by omega) hl3 rfl, ?_, (World.putObj_heap_other (by omega)).trans hk3⟩, hk0.trans (h4.trans (KeepU.putObj hl3 rfl))⟩
        rw [World.putObj_heap_same (Array.getElem?_eq_some_iff.1 hl3).1, hrec]
        rfl
      | ret => exact hp.elim
      | exit id => exact hp.elim
      | goto t => exact hp.elim
      | panic ch => exact hp.elim
      | outgrown => exact hp.elim
    · rintro e W2 ⟨⟨v, rfl⟩, hi, hl, hk⟩
      exact ⟨none, _, by have := run_endLoop (P := Try.prog) hl (by rw [hrec]; simp); rw [hrec] at this; exact this, hdone _ _ (Nat.le_refl _) (hIp _ _ _ _ _ hi (by omega) hl rfl) ((World.putObj_heap_other (by omega)).trans hk)⟩

/-- What lies in Split's box between two rounds. -/
structure SpAt (w0 : World) (ss : List ByteArray) (W : World) : Prop where
  box : ∃ v, W.heap[w0.heap.size]? = some (.cells #[v] 26 (0, 0)) ∧ W.ownsRow w0.heap.size 9 1 v ss.length (ss.map Value.string)
  below : Below w0.heap.size w0 W
theorem SpAt.step {w0 : World} {B : Nat} (hB : w0.heap.size ≤ B) {ss : List ByteArray} {W W' : World} (h : SpAt w0 ss W) (hs : StepU B W W') : SpAt w0 ss W' := by
  obtain ⟨v, hv, ho⟩ := h.box
  refine ⟨⟨v, hs.2.2.2.2 _ _ hv (.inr (fun cs fz e => by cases e)), ho.1, ?_⟩, ?_⟩
  · rcases ho.2 with h' | ⟨g, cap, cur, h1, h2, h3, h4⟩
    · exact .inl h'
    · exact .inr ⟨g, cap, cur, h1, h2, hs.2.2.2.2 _ _ h3 (.inr (fun cs fz e => by cases e)), h4⟩
  · have hb := h.below
    refine ⟨hs.1.trans hb.os, hs.2.1.trans hb.tape, hs.2.2.1.trans hb.output, Nat.le_trans hb.size hs.2.2.2.1, fun k hk => ?_⟩
    obtain ⟨o, ho⟩ : ∃ o, W.heap[k]? = some o := ⟨_, Array.getElem?_eq_getElem (Nat.lt_of_lt_of_le hk hb.size)⟩
    exact (hs.2.2.2.2 k o ho (.inl (Nat.lt_of_lt_of_le hk hB))).trans (ho.symm.trans (hb.block k hk))
theorem SpAt.put {w0 : World} {l : Nat} {o o' : Obj} (hB : w0.heap.size ≤ l) {ss : List ByteArray} {W : World} (h : SpAt w0 ss W) (hl : W.heap[l]? = some o) (ho' : o.isCells = false) : SpAt w0 ss (W.putObj l o') := by
  obtain ⟨v, hv, ho⟩ := h.box
  have key : ∀ {k : Nat} {c : Array Value} {T : Nat} {fz : Nat × Nat}, W.heap[k]? = some (.cells c T fz) → (W.putObj l o').heap[k]? = some (.cells c T fz) := fun {k c T fz} hk =>
    ((putObj_sameRest W l o').2 k (fun e => by subst e; rw [hl] at hk; cases hk; cases ho')).trans hk
  refine ⟨⟨v, key hv, ho.1, ?_⟩, ?_⟩
  · rcases ho.2 with h' | ⟨g, cap, cur, h1, h2, h3, h4⟩
    · exact .inl h'
    · exact .inr ⟨g, cap, cur, h1, h2, key h3, h4⟩
  · have hb := h.below
    exact ⟨hb.os, hb.tape, hb.output, by rw [(putObj_sameRest W l o').1]; exact hb.size, fun k hk => ((putObj_sameRest W l o').2 k (by omega)).trans (hb.block k hk)⟩
theorem info_str : (Try.prog.info? 9).map (fun i => (i.zero, i.size, i.bytes)) = some (some (.string ⟨#[]⟩), 1, 16) := by kernel_rfl
theorem box_set {W : World} {B : Nat} {v : Value} {t : TypeId} (v' : Value) (h : W.heap[B]? = some (.cells #[v] t (0, 0))) : (W.setCell ⟨B, 0, none⟩ v').heap[B]? = some (.cells #[v'] t (0, 0)) := by
  obtain ⟨hlt, hk⟩ := Array.getElem?_eq_some_iff.1 h
  show (W.heap.modify B _)[B]? = _
  rw [Array.getElem?_eq_getElem (by rw [Array.size_modify]; exact hlt), Array.getElem_modify_self, hk]
  rfl
theorem box_cell {W : World} {B : Nat} {v : Value} {t : TypeId} (h : W.heap[B]? = some (.cells #[v] t (0, 0))) : W.cell? ⟨B, 0, none⟩ = some v ∧ W.frozen? ⟨B, 0, none⟩ = false := by
  constructor <;> simp [World.cell?, World.frozen?, h]

theorem own_some {W : World} {base n e : Nat} {v : Value} {xs : List Value} (ho : W.ownsRow base e 1 v (n + 1) xs) : ∃ g cap cur, v = .slice (some ⟨g, 0, none⟩) (n + 1) cap ∧ base ≤ g ∧ W.heap[g]? = some (.cells cur e (0, 0)) ∧ n + 1 ≤ cap ∧ cap ≤ maxLen ∧ cur.size = cap * 1 ∧ cur.toList.take ((n + 1) * 1) = xs := by
  rcases ho.2 with ⟨_, h0⟩ | h'
  · exact absurd h0 (by omega)
  · exact h'

def words_Split.f (s : ByteArray) : Option (List ByteArray × Int) := if (s.size : Int) > 2000 then some ([], 2) else some (wordsOf s, 0)

set_option maxRecDepth 100000 in
set_option maxHeartbeats 4000000 in
theorem words_Split.own (a0 : ByteArray) (r1 : List ByteArray) (r2 : Int) (w : World) (h : words_Split.f a0 = some (r1, r2)) :
    Calls Try.prog 11 #[.string a0] w fun e w' => ∃ v0_ : Value, e = .returned (.tuple #[v0_, .int .i64 r2]) ∧ w'.ownsRow w.heap.size 9 1 v0_ r1.length (r1.map Value.string) ∧ Below w.heap.size w w' := by
  unfold words_Split.f at h
  by_cases hlong : (a0.size : Int) > 2000
  · rw [if_pos hlong] at h
    obtain ⟨rfl, rfl⟩ := Prod.mk.inj (Option.some.inj h)
    have hl : decide (2000 < (a0.size : Int)) = true := decide_eq_true hlong
    go_enter Try.func11, Try.ntmps11
    go_wp2
    exact bodyPost_ret (v := .tuple #[.slice none 0 0, .int .i64 2]) (by simp [results, Try.f11, go_sem]) rfl ⟨_, rfl, ⟨rfl, .inl ⟨rfl, rfl⟩⟩, Below.refl _ w⟩
  · rw [if_neg hlong] at h
    have H := Aside0.mk (Prod.mk.inj (Option.some.inj h))
    clear h
    refine (callsIn_wide (n := 3)).1 ?_
    refine callsIn_of_wp_marks Try.func11 rfl trivial ?_ rfl
    simp only [Try.ntmps11, List.size_toArray, List.length_cons, List.length_nil, Nat.reduceAdd, Nat.reduceSub, Array.replicate_succ, Array.replicate_zero, List.push_toArray, List.append_toArray, List.nil_append, List.cons_append]
    have hl : decide (2000 < (a0.size : Int)) = false := decide_eq_false hlong
    gi_wp2_with (refine ⟨trivial, ?_⟩; gi_at_call 23; refine (rows_in _ _ _).mono ?_; rintro e w' ⟨rfl, rfl⟩)
    obtain ⟨i0, hi, hz0, hz1, hz2⟩ := info_parts info_str
    refine wpIn_rows (Bs := w.heap.size + 1) (s := a0) (by omega) (by omega) rfl (by simp) (by simp) rfl (SpAt w) (fun pre A B hA hU => hA.step (by simp; omega) hU) (fun pre A l o o' hA hl ho hc => hA.put (by simp at hl; omega) ho hc)
      ⟨⟨.slice none 0 0, (Below.heap_alloc _ _ _ (by simp)).trans (World.alloc_heap_new w _), rfl, .inl ⟨rfl, rfl⟩⟩, ((Below.refl _ w).alloc (Nat.le_refl _) _).alloc (by simp) _⟩
      (fun x => { tmps := #[.string a0, undef, .slice none 0 0, .int .i64 0, .pointer (some ⟨w.heap.size, 0, none⟩), .string x, .string a0, .int .i64 a0.size, .bool false, .string a0, .func (.func 26) #[] #[.pointer (some ⟨w.heap.size + 1, 0, none⟩)], .string x, undef, undef, undef, undef, undef], defers := [] }) ?assign ?body ?done
    case assign =>
      intro l x W K hK
      gi_wp2
      exact hK
    case body =>
      rintro l pre x W ⟨⟨v, hv, hown⟩, hbl⟩ hlt
      obtain ⟨hc, hf⟩ := box_cell hv
      have hWs := hbl.size
      have hcn := cell_one_new W (.string x) 9
      have hmx : pre.length + 1 ≤ maxLen := by show pre.length + 1 ≤ 9223372036854775807; omega
      have hne : some w.heap.size ≠ v.ownBlock := fun e => by
        obtain ⟨_, _, cs, fz, h⟩ := own_row hown _ e.symm
        rw [hv] at h; cases h
      have hA : Below W.heap.size W (W.alloc (.cells #[.string x] 9)) := (Below.refl _ W).alloc (Nat.le_refl _) _
      have hownA := own_below hA hown
      have hBW : w.heap.size < W.heap.size := (Array.getElem?_eq_some_iff.1 hv).1
      have HV := Aside0.mk hv
      clear hv
      gi_wp2_with (gi_at_builtin; refine wpListIn_append_own _ rfl _ _ 26 rfl w.heap.size 9 i0 (.string ⟨#[]⟩) 1 16 Try.underlying26 hi hz0 hz1 hz2 rfl (by decide) _ _ _ rfl hownA ⟨W.heap.size, 0, none⟩ 1 1 [.string x] rfl rfl hcn (by simp [Value.oneCell']) hmx (by omega) (by simp; omega) ?_; intro v' w3 hown' hg3 hnil3; have hv3 := (hg3.block w.heap.size (by simp; omega) hne).trans ((hA.block w.heap.size hBW).trans HV.out); obtain ⟨hc3, hf3⟩ := box_cell hv3; obtain ⟨g', cap', cur', rfl, hbase', hgb', hr1, hr2, hr3, hr4⟩ := own_some hown'; simp only [Act.put, List.setIfInBounds_toArray, List.set_cons_succ, List.set_cons_zero])
      have hgu : w3.grownBy (w3.setCell ⟨w.heap.size, 0, none⟩ (.slice (some ⟨g', 0, none⟩) (pre.length + 1) cap')) (some w.heap.size) := grownBy_setCell' w3 w.heap.size _
      have hv4 := box_set (.slice (some ⟨g', 0, none⟩) (pre.length + 1) cap') hv3
      have hgn : g' ≠ w.heap.size := fun e => by subst e; rw [hv3] at hgb'; cases hgb'
      have hb3 : Below w.heap.size w w3 := ((hbl.trans (hA.mono hWs))).grown hg3 (by simp; omega) (fun k e => (own_row hown _ e).1)
      have hblk : ∀ k, k < W.heap.size → some k ≠ v.ownBlock → k ≠ w.heap.size → (w3.setCell ⟨w.heap.size, 0, none⟩ (.slice (some ⟨g', 0, none⟩) (pre.length + 1) cap')).heap[k]? = W.heap[k]? := fun k h1 h2 h3 =>
        (hgu.block k (by have := hg3.size; simp at this; omega) (fun e => h3 (by simpa using e))).trans ((hg3.block k (by simp; omega) h2).trans (hA.block k h1))
      have hsz4 : W.heap.size ≤ (w3.setCell ⟨w.heap.size, 0, none⟩ (.slice (some ⟨g', 0, none⟩) (pre.length + 1) cap')).heap.size := by have h1 := hgu.size; have h2 := hg3.size; simp at h1 h2 ⊢; omega
      refine ⟨⟨hsz4, fun k o ho hcl => ?_⟩, ⟨hsz4, fun k cs fz ho => ?_⟩, ⟨⟨_, hv4, ?_⟩, hb3.grown hgu hb3.size (fun k e => by cases e; exact Nat.le_refl _)⟩⟩
      · refine (hblk k (Array.getElem?_eq_some_iff.1 ho).1 (fun e => ?_) (fun e => ?_)).trans ho
        · obtain ⟨_, _, cs, fz, h⟩ := own_row hown _ e.symm
          rw [ho] at h; cases h; cases hcl
        · subst e; rw [HV.out] at ho; cases ho; cases hcl
      · refine (hblk k (Array.getElem?_eq_some_iff.1 ho).1 (fun e => ?_) (fun e => ?_)).trans ho
        · obtain ⟨_, _, cs, fz, h⟩ := own_row hown _ e.symm
          rw [ho] at h; cases h
        · subst e; rw [HV.out] at ho; cases ho
      · rw [List.length_append, List.length_singleton, List.map_append, List.map_singleton]
        refine ⟨hown'.1, .inr ⟨g', cap', cur', rfl, hbase', ?_, hr1, hr2, hr3, hr4⟩⟩
        exact (hgu.block g' (Array.getElem?_eq_some_iff.1 hgb').1 (fun e => hgn (by simpa using e))).trans hgb'
    case done =>
      rintro D W hD hS hK
      have hS2 := hS.put (o' := .deferred none) (by simp at hD; omega) hK rfl
      obtain ⟨⟨v, hv, hown⟩, hbl⟩ := hS
      obtain ⟨hc, hf⟩ := box_cell hv
      obtain ⟨⟨v2, hv2, hown2⟩, hbl2⟩ := hS2
      have hvv : v2 = v := by
        have h1 := ((putObj_sameRest W D (.deferred none)).2 w.heap.size (fun e => by subst e; rw [hK] at hv; cases hv)).trans hv
        rw [hv2] at h1
        simpa using h1
      subst hvv
      have HR := Aside0.mk hown2
      clear hown hown2 hv hv2
      gi_wp2
      refine ⟨by simp, .inl ⟨_, _, rfl, run_takeDeferred hK, ?_⟩⟩
      exact ⟨.tuple #[v2, .int .i64 0], by simp [results, Try.f11, go_sem], v2, by rw [← H.out.2], by rw [← H.out.1]; exact HR.out, hbl2⟩

theorem words_Split.calls (a0 : ByteArray) (r1 : List ByteArray) (r2 : Int) (w : World) (h : words_Split.f a0 = some (r1, r2)) :
    Calls Try.prog 11 #[.string a0] w fun e w' => ∃ v0_ : Value, e = .returned (.tuple #[v0_, .int .i64 r2]) ∧ Kd.V Kd.string 9 w' w.heap.size (fun k_ => w.heap.size ≤ k_) v0_ r1 ∧ Below w.heap.size w w' :=
  (words_Split.own a0 r1 r2 w h).mono fun e w' ⟨v, he, ho, hb⟩ => ⟨v, he, Kd.R_V (Kd.R_of_own (enc := Value.string) (ok := fun k => w.heap.size ≤ k) ho (fun k hk => (own_row ho k hk).1)), hb⟩
end Go.Proofs.Ytpmjnggkhjjiaaa.A
