/- The iterator under words.Split (rows), walked by hand: for every loop body that keeps rows of bytes. -/
import Derived.Test.YtpmjnggkhjjiaaaAx1
import Derived.RangeFuncNested
import Derived.RangeFuncBound
import Derived.RangeFuncCalls
import Derived.RangeFuncLeaves
import Derived.RangeFuncBox
import Derived.Shelf.Abstract
import Derived.Shelf.RegionOpen
import Derived.WalkKit
import Derived.OwnWalkIn
import Derived.TacticsInMore
import Derived.LoopNIn
import Derived.LoopIn
import Derived.Outline
import Derived.Lib.ConvBytes
namespace Go.Proofs.Ytpmjnggkhjjiaaa.A
open Go.RowKit Go.Shelf Go.Proofs.YtpmjnggkhjjiaaaW.PrintWords Go.Proofs.YtpmjnggkhjjiaaaW.PrintLast Go.Proofs.YtpmjnggkhjjiaaaW.PrintMore
attribute [local go_sem] Oper.semAt_some min2_int max2_int min_two max_two
set_option linter.unusedVariables false
set_option linter.unusedSimpArgs false

/-- What a byte becomes in a word; 0: it parts words. -/
def signOf (b : Int) : Int := if 65 ≤ b ∧ b ≤ 90 then b + 32 else if (97 ≤ b ∧ b ≤ 122) ∨ (48 ≤ b ∧ b ≤ 57) then b else 0
theorem sign_j0 (k : Nat) (x0 : Int) (x3 : Bool) : words_Sign.j0 (k + 1) x0 x3 = if x3 = true then (some ((x0 + 32) % 256)) else (if x0 ≥ 97 then (words_Sign.j1 k x0 (decide (x0 ≤ 122))) else (words_Sign.j1 k x0 false)) := by rw [words_Sign.j0]
theorem sign_j1 (k : Nat) (x0 : Int) (x10 : Bool) : words_Sign.j1 (k + 1) x0 x10 = if x10 = true then (some x0) else (if x0 ≥ 48 then (if x0 ≤ 57 then (some x0) else (some 0)) else (some 0)) := by rw [words_Sign.j1]
theorem sign_eq (k : Nat) (b : Int) (hk : 3 ≤ k) (h0 : 0 ≤ b) (h1 : b ≤ 255) : words_Sign.f k b = some (signOf b) := by
  obtain ⟨k, rfl⟩ : ∃ m, k = m + 1 + 1 := ⟨k - 2, by omega⟩
  unfold words_Sign.f signOf
  rw [sign_j0, sign_j0, sign_j1, sign_j1]
  simp only [decide_eq_true_eq, Bool.false_eq_true, if_false]
  repeat' split
  all_goals first | (exfalso; omega) | (simp only [Option.some.injEq]; omega) | rfl
theorem signOf_range {b : Int} (h0 : 0 ≤ b) (h1 : b ≤ 255) : 0 ≤ signOf b ∧ signOf b ≤ 122 := by unfold signOf; split <;> (try split) <;> omega

/-- The word that is under way, and the words that have come. -/
def wstep (st : List Int × List ByteArray) (b : Int) : List Int × List ByteArray :=
  if signOf b = 0 then ([], if 2 ≤ st.1.length then st.2 ++ [strOfNums (st.1.take 20)] else st.2) else (st.1 ++ [signOf b], st.2)
def wscan (xs : List Int) : List Int × List ByteArray := xs.foldl wstep ([], [])
def wordsOf (s : ByteArray) : List ByteArray := (wscan (bytesOf (s ++ (⟨#[0]⟩ : ByteArray)))).2
theorem wscan_snoc (xs : List Int) (b : Int) : wscan (xs ++ [b]) = wstep (wscan xs) b := by simp [wscan]
theorem wstep_len (st : List Int × List ByteArray) (b : Int) : (wstep st b).1.length ≤ st.1.length + 1 ∧ (wstep st b).2.length ≤ st.2.length + 1 := by
  unfold wstep
  by_cases h : signOf b = 0
  · rw [if_pos h]
    refine ⟨by simp, ?_⟩
    simp only
    split
    · simp
    · omega
  · rw [if_neg h]; simp
theorem wscan_len : ∀ (n : Nat) (xs : List Int), (wscan (xs.take n)).1.length ≤ n ∧ (wscan (xs.take n)).2.length ≤ n
  | 0, xs => by simp [wscan]
  | n + 1, xs => by
    by_cases h : n < xs.length
    · rw [List.take_succ_eq_append_getElem h, wscan_snoc]
      have := wscan_len n xs
      have h2 := wstep_len (wscan (xs.take n)) xs[n]
      omega
    · rw [List.take_of_length_le (by omega)]
      have := wscan_len n xs
      rw [List.take_of_length_le (by omega)] at this
      omega

/-- What the iterator does to the world, as its user may see it: rows of bytes, laid since B, may turn; nothing else does. -/
def StepU (B : Nat) (W W' : World) : Prop := W'.os = W.os ∧ W'.tape = W.tape ∧ W'.output = W.output ∧ W.heap.size ≤ W'.heap.size ∧ ∀ k o, W.heap[k]? = some o → (k < B ∨ ∀ (cs : Array Value) (fz : Nat × Nat), o ≠ Obj.cells cs 5 fz) → W'.heap[k]? = some o
theorem StepU.trans {B : Nat} {a b c : World} (h : StepU B a b) (k : StepU B b c) : StepU B a c :=
  ⟨k.1.trans h.1, k.2.1.trans h.2.1, k.2.2.1.trans h.2.2.1, Nat.le_trans h.2.2.2.1 k.2.2.2.1, fun i o ho hc => k.2.2.2.2 i o (h.2.2.2.2 i o ho hc) hc⟩
theorem StepU.of_below {B : Nat} {a b : World} (h : Below a.heap.size a b) : StepU B a b :=
  ⟨h.os, h.tape, h.output, h.size, fun i o ho _ => (h.block i (Array.getElem?_eq_some_iff.1 ho).1).trans ho⟩
theorem StepU.of_grown {B : Nat} {a b : World} {row : Option Nat} (hg : a.grownBy b row) (hr : ∀ r, row = some r → B ≤ r ∧ ∃ cs fz, a.heap[r]? = some (.cells cs 5 fz)) : StepU B a b := by
  refine ⟨hg.os, hg.tape, hg.output, hg.size, fun i o ho hc => (hg.block i (Array.getElem?_eq_some_iff.1 ho).1 ?_).trans ho⟩
  intro e
  obtain ⟨hB, cs, fz, hcell⟩ := hr i e.symm
  rw [ho] at hcell
  rcases hc with h | h
  · omega
  · exact h cs fz (Option.some.inj hcell)
/-- What a loop body owes the iterator: rows of bytes lie as they lay. -/
def KeepU (W W' : World) : Prop := W.heap.size ≤ W'.heap.size ∧ ∀ (k : Nat) (cs : Array Value) (fz : Nat × Nat), W.heap[k]? = some (Obj.cells cs 5 fz) → W'.heap[k]? = some (Obj.cells cs 5 fz)
theorem KeepU.own {W W' : World} (h : KeepU W W') {base n : Nat} {v : Value} {xs : List Value} (ho : W.ownsRow base 5 1 v n xs) : W'.ownsRow base 5 1 v n xs := by
  refine ⟨ho.1, ?_⟩
  rcases ho.2 with h' | ⟨g, cap, cur, h1, h2, h3, h4⟩
  · exact .inl h'
  · exact .inr ⟨g, cap, cur, h1, h2, h.2 _ _ _ h3, h4⟩
theorem own_below {W W' : World} (h : Below W.heap.size W W') {base n e : Nat} {v : Value} {xs : List Value} (ho : W.ownsRow base e 1 v n xs) : W'.ownsRow base e 1 v n xs := by
  refine ⟨ho.1, ?_⟩
  rcases ho.2 with h' | ⟨g, cap, cur, h1, h2, h3, h4⟩
  · exact .inl h'
  · exact .inr ⟨g, cap, cur, h1, h2, (h.block g (Array.getElem?_eq_some_iff.1 h3).1).trans h3, h4⟩
theorem bt_nat' (s : ByteArray) (k : Nat) (h : k < s.size) : bt s (k : Int) = ((s.data.toList.getD k 0).toNat : Int) := by
  unfold bt
  rw [Int.toNat_natCast, dif_pos h, List.getD_eq_getElem?_getD, List.getElem?_eq_getElem (by simpa using h)]
  rfl
theorem own_row {W : World} {base n e : Nat} {v : Value} {xs : List Value} (ho : W.ownsRow base e 1 v n xs) : ∀ r, v.ownBlock = some r → base ≤ r ∧ r < W.heap.size ∧ ∃ (cs : Array Value) (fz : Nat × Nat), W.heap[r]? = some (Obj.cells cs e fz) := by
  intro r hr
  rcases ho.2 with ⟨rfl, _⟩ | ⟨g, cap, cur, rfl, h2, h3, h4⟩
  · simp [Value.ownBlock] at hr
  · obtain rfl : g = r := by simpa [Value.ownBlock] using hr
    exact ⟨h2, (Array.getElem?_eq_some_iff.1 h3).1, cur, (0, 0), h3⟩
theorem own_take {W : World} {base n e g cap : Nat} {xs : List Value} (ho : W.ownsRow base e 1 (.slice (some ⟨g, 0, none⟩) n cap) n xs) (m : Nat) (hm : m ≤ n) : W.ownsRow base e 1 (.slice (some ⟨g, 0, none⟩) m cap) m (xs.take m) := by
  have hl := ho.1
  rcases ho.2 with ⟨h, _⟩ | ⟨g', cap', cur, h1, h2, h3, h4, h5, h6, h7⟩
  · cases h
  · obtain ⟨rfl, rfl⟩ : g = g' ∧ cap = cap' := by simpa using h1
    refine ⟨by rw [List.length_take]; omega, .inr ⟨g, cap, cur, rfl, h2, h3, by omega, h5, h6, ?_⟩⟩
    rw [← h7, List.take_take]
    congr 1; omega
theorem info_u8 : (Try.prog.info? 5).map (fun i => (i.zero, i.size, i.bytes)) = some (some (.int .u8 0), 1, 1) := by kernel_rfl

set_option maxRecDepth 100000 in
set_option maxHeartbeats 4000000 in
/-- The iterator: for every invariant of its user that does not mind a turn of rows of bytes that were laid since; for every loop body that keeps rows of bytes. -/
theorem rows1_in (n : Nat) (hn : 1 ≤ n) (l Bs : Nat) (s : ByteArray) (hs : s.size ≤ 2000) (J : List ByteArray → World → Prop) (W : World) (hJ : ∀ pre A B, J pre A → StepU W.heap.size A B → J pre B)
    (hY : ∀ pre x A, J pre A → pre.length < 2001 → YieldAt Fence.wide (n - 1) Try.prog l #[.string x] A fun e A' => e = .returned (.bool true) ∧ J (pre ++ [x]) A' ∧ KeepU A A')
    (hBs : W.cell? ⟨Bs, 0, none⟩ = some (.string s)) (h0 : J [] W) :
    CallsIn Fence.wide n Try.prog 26 #[.func (.yield l) #[] #[], .pointer (some ⟨Bs, 0, none⟩)] W fun e W' => (∃ v, e = .returned v) ∧ J (wordsOf s) W' := by
  obtain ⟨s0, hs0⟩ : ∃ s0, s ++ (⟨#[0]⟩ : ByteArray) = s0 := ⟨_, rfl⟩
  obtain ⟨xs, hxs⟩ : ∃ xs, bytesOf s0 = xs := ⟨_, rfl⟩
  have hsz : s0.size = s.size + 1 := by rw [← hs0, ByteArray.size_append]; rfl
  have hlen : xs.length = s0.size := by rw [← hxs, bytesOf_length]
  have hw : wordsOf s = (wscan xs).2 := by unfold wordsOf; rw [hs0, hxs]
  rw [hw]
  have hcv := Lib.run_convert_string_bytes W 9 33 5 s0 Try.underlying9 Try.underlying33 Try.underlying5
  have hnew := Lib.bytesWorld_at_new W 5 s0
  have hcell := Lib.bytesWorld_cell W 5 s0
  have hW1 := Lib.bytesWorld_size W 5 s0
  have hBW : Below W.heap.size W (Lib.bytesWorld W 5 s0) := ⟨rfl, rfl, rfl, by rw [hW1]; omega, fun k hk => Lib.bytesWorld_at_old W 5 s0 k hk⟩
  obtain ⟨cap0, hcap0⟩ : ∃ c, grownCap W s0.size 0 5 = c := ⟨_, rfl⟩
  rw [hcap0] at hcv
  have hadd : s.size + 1 ≤ 9223372036854775807 := by omega
  generalize hWx : Lib.bytesWorld W 5 s0 = Wx at *
  obtain ⟨i0, hi, hz0, hz1, hz2⟩ := info_parts info_u8
  refine callsIn_of_wp Try.func26 rfl trivial ?_ rfl
  simp only [Try.ntmps26, List.size_toArray, List.length_cons, List.length_nil, Nat.reduceAdd, Nat.reduceSub, Array.replicate_succ, Array.replicate_zero, List.push_toArray, List.append_toArray, List.nil_append, List.cons_append]
  gi_wp2
  gi_loopw [3, 11] (fun v i wr => ∃ (k : Nat) (wv : Value), k ≤ xs.length ∧ i = .int .i64 k ∧ v = wv ∧ wr.ownsRow (W.heap.size + 1) 5 1 wv (wscan (xs.take k)).1.length (nums .u8 (wscan (xs.take k)).1) ∧ wr.heap[W.heap.size]? = Wx.heap[W.heap.size]? ∧ W.heap.size + 1 ≤ wr.heap.size ∧ J (wscan (xs.take k)).2 wr)
    (fun _ i _ => xs.length - (intOf i).toNat)
  case atStart =>
    refine ⟨0, _, Nat.zero_le _, rfl, rfl, ⟨rfl, .inl ⟨rfl, rfl⟩⟩, rfl, by omega, ?_⟩
    exact hJ [] W Wx h0 (StepU.of_below hBW)
  case round =>
    obtain ⟨k, wv, hk, rfl, rfl, hown, hr9, hszw, hJs⟩ := hrel
    obtain ⟨wd, hwd⟩ : ∃ wd, (wscan (xs.take k)).1 = wd := ⟨_, rfl⟩
    obtain ⟨ys, hys⟩ : ∃ ys, (wscan (xs.take k)).2 = ys := ⟨_, rfl⟩
    have hwl := wscan_len k xs
    rw [hwd] at hown hwl
    rw [hys] at hJs hwl
    have hscan : wscan (xs.take k) = (wd, ys) := Prod.ext hwd hys
    by_cases hlt : k < xs.length
    · have hltd : decide ((k : Int) < (s0.size : Int)) = true := by simp; omega
      have hnext : wscan (xs.take (k + 1)) = wstep (wd, ys) xs[k] := by rw [List.take_succ_eq_append_getElem hlt, wscan_snoc, hscan]
      obtain ⟨b, hb⟩ : ∃ b, xs[k] = b := ⟨_, rfl⟩
      have hbt : b = bt s0 k := by
        rw [← hb]; subst hxs
        have := rd_bytesOf s0 k
        rw [← this]
        simp only [rd, Int.toNat_natCast, List.getD_eq_getElem?_getD, List.getElem?_eq_getElem hlt, Option.getD_some]
      rw [hb] at hnext
      have hbr : 0 ≤ b ∧ b ≤ 255 := by rw [hbt]; exact bt_range _ _
      have hsg := sign_eq 5 b (by omega) hbr.1 hbr.2
      have hsr := signOf_range hbr.1 hbr.2
      have hc : wr.cell? ⟨W.heap.size, k, none⟩ = some (.int .u8 b) := by
        rw [World.cell?_of_block (w := Wx) (a := ⟨W.heap.size, k, none⟩) hr9, hcell k (by omega), hbt]
        have := bt_nat' s0 k (by omega)
        rw [this]
      clear hbt
      have hown0 := fun nd => own_below (pw_below_drewN (Below.refl wr.heap.size wr) nd) hown
      have hJ0 : ∀ nd, J ys (wr.drewN nd) := fun nd => hJ _ _ _ hJs (StepU.of_below (pw_below_drewN (Below.refl _ _) nd))
      have hr90 : ∀ nd, (wr.drewN nd).heap[W.heap.size]? = Wx.heap[W.heap.size]? := fun nd => ((pw_below_drewN (Below.refl wr.heap.size wr) nd).block W.heap.size (by omega)).trans hr9
      by_cases hb0 : signOf b = 0
      · -- a byte that parts words
        have hd0 : (!(signOf b == 0)) = false := by rw [hb0]; rfl
        have hnext' : wscan (xs.take (k + 1)) = ([], if 2 ≤ wd.length then ys ++ [strOfNums (wd.take 20)] else ys) := by rw [hnext]; unfold wstep; rw [if_pos hb0]
        rw [hb0] at hsg
        have HN := Aside0.mk hnext'
        have hsplit := hown.2
        rcases hsplit with ⟨rfl, hw0⟩ | ⟨g, cap, cur, rfl, q1, q2, q3, q4, q5, q6⟩
        · obtain rfl : wd = [] := List.eq_nil_of_length_eq_zero hw0
          clear hscan hnext hnext' hcv hcell hr9 hb0
          gi_wp2_with (first
            | (refine ⟨trivial, ?_⟩; gi_at_call 19; refine (callsIn_wide.2 (words_Sign.calls 5 _ _ _ hsg)).mono ?_; rintro e w' ⟨rfl, ⟨nd, rfl⟩⟩))
          refine ⟨fun f h => (by cases h), ?_⟩
          gi_wp2
          go_roundw
          case rel =>
            refine ⟨k + 1, _, by omega, by simp, rfl, ?_, hr90 nd, by simp; omega, ?_⟩
            · rw [HN.out]; exact ⟨rfl, .inl ⟨rfl, rfl⟩⟩
            · rw [HN.out]; exact hJ0 nd
          case measure => simp [intOf]; omega
        · have hown1 : ∀ nd, (wr.drewN nd).ownsRow (W.heap.size + 1) 5 1 (.slice (some ⟨g, 0, none⟩) 0 cap) 0 (nums .u8 []) := fun nd => own_take (hown0 nd) 0 (Nat.zero_le _)
          have hend : wd.length < 2 → wscan (xs.take (k + 1)) = ([], ys) := fun h => by rw [hnext', if_neg (by omega)]
          have hend2 : 2 ≤ wd.length → wscan (xs.take (k + 1)) = ([], ys ++ [strOfNums (wd.take 20)]) := fun h => by rw [hnext', if_pos h]
          have HE := Aside0.mk hend
          have HE2 := Aside0.mk hend2
          have hyY : ∀ nd, YieldAt Fence.wide (n - 1) Try.prog l #[.string (strOfNums (wd.take 20))] (wr.drewN nd) _ := fun nd => hY ys _ _ (hJ0 nd) (by omega)
          by_cases h2 : 2 ≤ wd.length
          · have h2d : decide ((2 : Int) ≤ (wd.length : Int)) = true := by simp; omega
            by_cases h20 : 20 < wd.length
            · have hcv : ∀ nd, (convert 33 9 (.slice (some ⟨g, 0, none⟩) 20 cap)).run Try.prog (wr.drewN nd) = .ok (.string (strOfNums (wd.take 20))) (wr.drewN nd) := fun nd => by
                have := own_take (hown0 nd) 20 (by omega)
                rw [show (nums IntKind.u8 wd).take 20 = nums .u8 (wd.take 20) by simp [nums]] at this
                exact own_string Try.underlying33 Try.underlying5 Try.underlying9 this
              have h20d : (20 : Int) < (wd.length : Int) := by omega
              clear hscan hnext hnext' hcell hr9 hb0 hend hend2
              gi_wp2_with (first
                | (refine ⟨trivial, ?_⟩; gi_at_call 19; refine (callsIn_wide.2 (words_Sign.calls 5 _ _ _ hsg)).mono ?_; rintro e w' ⟨rfl, ⟨nd, rfl⟩⟩))
              obtain ⟨fn, tmps, assign, body, hy, hR⟩ := hyY nd
              rw [hy]
              gi_wp2
              refine hR.mono ?_
              rintro e W3 ⟨rfl, hJ3, hk3⟩
              have hk31 := hk3.1
              have hzz : (wr.drewN nd).heap.size = wr.heap.size := by simp
              have hr93 := hk3.2 _ _ _ ((hr90 nd).trans hnew)
              have hown3 := hk3.own (hown1 nd)
              gi_wp2
              go_roundw
              case rel =>
                refine ⟨k + 1, _, by omega, by simp, rfl, ?_, hr93.trans hnew.symm, by omega, ?_⟩
                · rw [HE2.out h2]; exact hown3
                · rw [HE2.out h2]; exact hJ3
              case measure => simp [intOf]; omega
            · have hcv : ∀ nd, (convert 33 9 (.slice (some ⟨g, 0, none⟩) wd.length cap)).run Try.prog (wr.drewN nd) = .ok (.string (strOfNums (wd.take 20))) (wr.drewN nd) := fun nd => by
                have := own_take (hown0 nd) wd.length (Nat.le_refl _)
                rw [show (nums IntKind.u8 wd).take wd.length = nums .u8 (wd.take 20) by rw [List.take_of_length_le (by simp [nums]), List.take_of_length_le (by omega)]] at this
                exact own_string Try.underlying33 Try.underlying5 Try.underlying9 this
              have h20d : ¬ (20 : Int) < (wd.length : Int) := by omega
              clear hscan hnext hnext' hcell hr9 hb0 hend hend2
              gi_wp2_with (first
                | (refine ⟨trivial, ?_⟩; gi_at_call 19; refine (callsIn_wide.2 (words_Sign.calls 5 _ _ _ hsg)).mono ?_; rintro e w' ⟨rfl, ⟨nd, rfl⟩⟩))
              obtain ⟨fn, tmps, assign, body, hy, hR⟩ := hyY nd
              rw [hy]
              gi_wp2
              refine hR.mono ?_
              rintro e W3 ⟨rfl, hJ3, hk3⟩
              have hk31 := hk3.1
              have hzz : (wr.drewN nd).heap.size = wr.heap.size := by simp
              have hr93 := hk3.2 _ _ _ ((hr90 nd).trans hnew)
              have hown3 := hk3.own (hown1 nd)
              gi_wp2
              go_roundw
              case rel =>
                refine ⟨k + 1, _, by omega, by simp, rfl, ?_, hr93.trans hnew.symm, by omega, ?_⟩
                · rw [HE2.out h2]; exact hown3
                · rw [HE2.out h2]; exact hJ3
              case measure => simp [intOf]; omega
          · have h2d : decide ((2 : Int) ≤ (wd.length : Int)) = false := by simp; omega
            clear hscan hnext hnext' hcv hcell hr9 hb0 hend hend2
            gi_wp2_with (first
              | (refine ⟨trivial, ?_⟩; gi_at_call 19; refine (callsIn_wide.2 (words_Sign.calls 5 _ _ _ hsg)).mono ?_; rintro e w' ⟨rfl, ⟨nd, rfl⟩⟩))
            refine ⟨fun f h => (by cases h), ?_⟩
            gi_wp2
            go_roundw
            case rel =>
              refine ⟨k + 1, _, by omega, by simp, rfl, ?_, hr90 nd, by simp; omega, ?_⟩
              · rw [HE.out (by omega)]; exact hown1 nd
              · rw [HE.out (by omega)]; exact hJ0 nd
            case measure => simp [intOf]; omega
      · -- a byte of a word
        have hnext' : wscan (xs.take (k + 1)) = (wd ++ [signOf b], ys) := by rw [hnext]; unfold wstep; rw [if_neg hb0]
        have hd0 : (!(signOf b == 0)) = true := by simpa using hb0
        have hd1 : (signOf b != 0) = true := by simpa using hb0
        have hd2 : decide (signOf b = 0) = false := by simpa using hb0
        have hmx : wd.length + 1 ≤ maxLen := by show wd.length + 1 ≤ 9223372036854775807; omega
        have hcn : ∀ nd, ∀ (j : Nat) (u : Value), [Value.int .u8 (signOf b)][j]? = some u → ((wr.drewN nd).alloc (.cells #[.int .u8 (signOf b)] 5)).cell? (Addr.add ⟨wr.heap.size, 0, none⟩ j) = some u := fun nd => by
          rw [show wr.heap.size = (wr.drewN nd).heap.size by simp]; exact cell_one_new _ _ _
        have HS := Aside0.mk hscan
        have HN := Aside0.mk hnext'
        clear hscan hnext hnext' hcv hcell hr9 hb0
        gi_wp2_with (first
          | (refine ⟨trivial, ?_⟩; gi_at_call 19; refine (callsIn_wide.2 (words_Sign.calls 5 _ _ _ hsg)).mono ?_; rintro e w' ⟨rfl, ⟨nd, rfl⟩⟩)
          | (gi_at_builtin; refine wpListIn_append_own _ rfl _ _ 33 rfl (W.heap.size + 1) 5 i0 (.int .u8 0) 1 1 Try.underlying33 hi hz0 hz1 hz2 rfl (by decide) _ _ _ rfl ((hown0 nd).alloc _) ⟨wr.heap.size, 0, none⟩ 1 1 [.int .u8 (signOf b)] rfl rfl (hcn nd) (by simp [Value.oneCell']) hmx (by omega) (by simp; omega) ?_; intro v' w3 hown' hg3 hnil3; simp only [Act.put, List.setIfInBounds_toArray, List.set_cons_succ, List.set_cons_zero]))
        have hA : Below (wr.drewN nd).heap.size (wr.drewN nd) ((wr.drewN nd).alloc (.cells #[.int .u8 (signOf b)] 5)) := (Below.refl _ _).alloc (Nat.le_refl _) _
        have hrow := own_row (own_below hA (hown0 nd))
        have hz : (wr.drewN nd).heap.size = wr.heap.size := by simp
        have hne : some W.heap.size ≠ (Value.ownBlock _) := fun e => by have := (own_row (hown0 nd) _ e.symm).1; omega
        have hg3s := hg3.size
        have hszA : ((wr.drewN nd).alloc (.cells #[.int .u8 (signOf b)] 5)).heap.size = wr.heap.size + 1 := by simp
        go_roundw
        case rel =>
          refine ⟨k + 1, v', by omega, by simp, rfl, ?_, ?_, by omega, ?_⟩
          · rw [HN.out]
            simp only [List.length_append, List.length_singleton, nums, List.map_append, List.map_singleton]
            exact hown'
          · exact (hg3.block W.heap.size (by omega) hne).trans ((hA.block W.heap.size (by omega)).trans (hr90 nd))
          · rw [HN.out]
            exact hJ _ _ _ (hJ0 nd) ((StepU.of_below hA).trans (StepU.of_grown hg3 (fun r e => ⟨by have := (hrow r e).1; omega, (hrow r e).2.2⟩)))
        case measure => simp [intOf]; omega
    · obtain rfl : k = xs.length := by omega
      have hltd : decide ((xs.length : Int) < (s0.size : Int)) = false := by simp; omega
      have hJe : J (wscan xs).2 wr := by rw [← hys, List.take_length] at hJs; exact hJs
      clear hcv hcell
      gi_wp2
      go_end0
      exact ⟨⟨_, rfl⟩, hJe⟩

theorem rows_in (n : Nat) (s : ByteArray) (w : World) :
    CallsIn Fence.wide n Try.prog 23 #[.string s] w fun e w' => e = .returned (.func (.func 26) #[] #[.pointer (some ⟨w.heap.size, 0, none⟩)]) ∧ w' = w.alloc (.cells #[.string s] 9) := by
  refine callsIn_of_wp Try.func23 rfl trivial ?_ rfl
  simp only [Try.ntmps23, List.size_toArray, List.length_cons, List.length_nil, Nat.reduceAdd, Nat.reduceSub, Array.replicate_succ, Array.replicate_zero, List.push_toArray, List.append_toArray, List.nil_append, List.cons_append]
  gi_wp2
  go_ret
  exact ⟨rfl, rfl⟩
end Go.Proofs.Ytpmjnggkhjjiaaa.A
