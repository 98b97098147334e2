/- words.Set, walked by hand: Split, then sorted, each once. -/
import Derived.Test.YtpmjnggkhjjiaaaHandSplit
import Derived.Test.YtpmjnggkhjjiaaaShelf
namespace Go.Proofs.Ytpmjnggkhjjiaaa.A
open Go.RowKit Go.Shelf Go.Sort Go.Proofs.YtpmjnggkhjjiaaaW.PrintWords Go.Proofs.YtpmjnggkhjjiaaaW.PrintLast Go.Proofs.YtpmjnggkhjjiaaaW.PrintMore
set_option linter.unusedVariables false
set_option linter.unusedSimpArgs false

def bl (s : ByteArray) : List UInt8 := s.data.toList
def lb (l : List UInt8) : ByteArray := ⟨l.toArray⟩
theorem lb_bl (s : ByteArray) : lb (bl s) = s := by cases s; simp [lb, bl]
theorem bl_lb (l : List UInt8) : bl (lb l) = l := by simp [lb, bl]
/-- Words in order. -/
def sorted (l : List (List UInt8)) : List (List UInt8) := l.mergeSort fun x y => decide (x ≤ y)
/-- Words in order, each once. -/
def onceOf (l : List ByteArray) : List ByteArray := (Lib.compact (sorted (l.map bl))).map lb
def setOf (s : ByteArray) : List ByteArray := onceOf (wordsOf s)
def words_Set.f (s : ByteArray) : Option (List ByteArray × Int) :=
  if (s.size : Int) > 2000 then some ([], 2) else if ((setOf s).length : Int) > 12 then some ([], 2) else some (setOf s, 0)

theorem onceOf_nil : onceOf [] = [] := by simp [onceOf, sorted, Lib.compact, Lib.compactUpTo]

theorem below_putRow {B blk : Nat} (hB : B ≤ blk) (w : World) (d : Array (List UInt8)) : RowKit.Below B w (putRow encStr w blk 0 d) :=
  ⟨rfl, rfl, rfl, by simp, fun k hk => by
    show (w.heap.modify blk _)[k]? = _
    rw [Array.getElem?_modify, if_neg (by omega)]⟩
theorem below_grow (w : World) (os : Array Obj) : RowKit.Below w.heap.size w (grow w os) :=
  ⟨rfl, rfl, rfl, by simp [grow], fun k hk => by simp [grow, Array.getElem?_append, hk]⟩
theorem below_ahead (B : Nat) (w : World) (n : Nat) : RowKit.Below B w (Sort.ahead w n) := ⟨rfl, rfl, rfl, Nat.le_refl _, fun _ _ => rfl⟩
theorem holds_below {w w' : World} {blk : Nat} {d : Array (List UInt8)} (hb : RowKit.Below w.heap.size w w') (h : Holds encStr w blk 0 d) (hblk : blk < w.heap.size) : Holds encStr w' blk 0 d := fun j hj =>
  ⟨(World.cell?_of_block (a := ⟨blk, 0 + j, none⟩) (hb.block blk hblk)).trans (h j hj).1, (World.frozen?_of_block (a := ⟨blk, 0 + j, none⟩) (hb.block blk hblk)).trans (h j hj).2⟩

/-- once: in order, each once, in the same memory. -/
theorem once_some (B blk cap : Nat) (zs : List (List UInt8)) (w : World) (hB : B ≤ blk) (hH : Holds encStr w blk 0 zs.toArray) (hblk : blk < w.heap.size) (hsz : zs.length ≤ 65536) (hcap : zs.length ≤ cap) :
    Calls Try.prog 24 #[.slice (some ⟨blk, 0, none⟩) zs.length cap] w fun e w' => e = .returned (.slice (some ⟨blk, 0, none⟩) (Lib.compact (sorted zs)).length cap) ∧
      Holds encStr w' blk 0 (Lib.compact (sorted zs) ++ List.replicate (zs.length - (Lib.compact (sorted zs)).length) []).toArray ∧ RowKit.Below B w w' := by
  have hl : (sorted zs).length = zs.length := by unfold sorted; rw [List.length_mergeSort]
  have hcl := Lib.compact_length_le (sorted zs)
  go_enter Try.func24, Try.ntmps24
  go_wp2_with (go_at_call 27; refine (Try.slices_Sort_string blk 0 cap zs _ hH hblk (by omega)).mono ?_; rintro e w1 ⟨rfl, n, os, hw1⟩; have hH1 : Holds encStr w1 blk 0 (sorted zs).toArray := (by rw [hw1]; exact holds_below (below_grow _ _) (holds_putRow encStr _ blk 0 zs.toArray _ (holds_ahead encStr w n blk 0 _ hH) (by simp [hl]) ) (by simpa using hblk)); have hb1 : RowKit.Below B w w1 := (by rw [hw1]; exact ((below_ahead B w n).trans (below_putRow hB _ _)).trans ((below_grow _ _).mono (by simp; omega))); clear hw1)
  have hC := Try.slices_Compact_string blk 0 cap (sorted zs) w1 hH1 (by omega) (by omega)
  rw [hl] at hC
  refine hC.mono ?_
  rintro e w2 ⟨rfl, q, hw2⟩
  clear hC
  go_wp2
  go_ret
  refine ⟨rfl, ?_, ?_⟩
  · exact holds_putRow encStr _ blk 0 _ _ (holds_ahead encStr w1 q blk 0 _ hH1) (by simp; omega)
  · exact hb1.trans ((below_ahead B w1 q).trans (below_putRow hB _ _))
theorem once_none (cap : Nat) (w : World) :
    Calls Try.prog 24 #[.slice none 0 cap] w fun e w' => e = .returned (.slice none 0 cap) ∧ w' = w := by
  go_enter Try.func24, Try.ntmps24
  go_wp2_with (first
    | (go_at_call 27; refine (Try.slices_Sort_string_none none cap _).mono ?_; rintro e w' ⟨rfl, rfl⟩)
    | (go_at_call 28; refine (Try.slices_Compact_string_empty none cap _).mono ?_; rintro e w' ⟨rfl, rfl⟩))
  go_ret
  exact ⟨rfl, rfl⟩

theorem V_of_holds {w : World} {base base' blk cap : Nat} {xs : List ByteArray} {d : Array (List UInt8)} (hb : base ≤ blk) (hH : Holds encStr w blk 0 d) (hd : ∀ j, j < xs.length → j < d.size ∧ d[j]! = bl (xs.getD j ⟨#[]⟩)) (hm : xs.length ≤ 9223372036854775807) (hc : xs.length ≤ cap) :
    Kd.V Kd.string 9 w base' (fun k => base ≤ k) (.slice (some ⟨blk, 0, none⟩) xs.length cap) xs := by
  refine Kd.V_mk hc (fun W' hW => Kd.C_of_reads (d := (⟨#[]⟩ : ByteArray)) ⟨rfl, hm, fun _ => ⟨⟨blk, 0, none⟩, rfl, fun j hj => ?_⟩⟩)
  obtain ⟨h1, h2⟩ := hd j hj
  have h3 := (hH j h1).1
  have hblk : blk < w.heap.size := World.block_lt_of_cell? w _ h3
  have e : (⟨blk, 0, none⟩ : Addr).add j = ⟨blk, 0 + j, none⟩ := by unfold Addr.add; split <;> simp_all
  rw [e, World.cell?_of_block (a := ⟨blk, 0 + j, none⟩) (hW blk hb hblk), h3, h2]
  show some (Value.string (lb (bl _))) = _
  rw [lb_bl]

set_option maxRecDepth 100000 in
theorem words_Set.calls (a0 : ByteArray) (r1 : List ByteArray) (r2 : Int) (w : World) (h : words_Set.f a0 = some (r1, r2)) :
    Calls Try.prog 13 #[.string a0] w fun e w' => ∃ v0_ : Value, e = .returned (.tuple #[v0_, .int .i64 r2]) ∧ Kd.V Kd.string 9 w' w.heap.size (fun k_ => w.heap.size ≤ k_) v0_ r1 ∧ RowKit.Below w.heap.size w w' := by
  unfold words_Set.f at h
  by_cases hlong : (a0.size : Int) > 2000
  · rw [if_pos hlong] at h
    obtain ⟨rfl, rfl⟩ := Prod.mk.inj (Option.some.inj h)
    have hs : words_Split.f a0 = some ([], 2) := by unfold words_Split.f; rw [if_pos hlong]
    go_enter Try.func13, Try.ntmps13
    go_wp2_with (go_at_call 11; refine (words_Split.own a0 _ _ _ hs).mono ?_; rintro e w1 ⟨v, rfl, ho, hb⟩)
    exact bodyPost_ret (v := .tuple #[.slice none 0 0, .int .i64 2]) (by simp [results, Try.f13, go_sem]) rfl ⟨_, rfl, Kd.V_nil _ _ _ _ _, hb⟩
  · rw [if_neg hlong] at h
    have hs : words_Split.f a0 = some (wordsOf a0, 0) := by unfold words_Split.f; rw [if_neg hlong]
    have hwl : (wordsOf a0).length ≤ 65536 := by
      have := (wscan_len (bytesOf (a0 ++ (⟨#[0]⟩ : ByteArray))).length (bytesOf (a0 ++ (⟨#[0]⟩ : ByteArray)))).2
      rw [List.take_length, bytesOf_length, ByteArray.size_append] at this
      have h1 : (⟨#[0]⟩ : ByteArray).size = 1 := rfl
      unfold wordsOf
      omega
    have HH := Aside0.mk h
    clear h
    go_enter Try.func13, Try.ntmps13
    go_wp2_with (go_at_call 11; refine (words_Split.own a0 _ _ _ hs).mono ?_; rintro e w1 ⟨v, rfl, ho, hb⟩)
    rcases ho.2 with ⟨rfl, h0⟩ | ⟨g, cap, cur, rfl, q1, q2, q3, q4, q5, q6⟩
    · have hnil : wordsOf a0 = [] := List.eq_nil_of_length_eq_zero h0
      have hset : setOf a0 = [] := by unfold setOf; rw [hnil]; exact onceOf_nil
      have h2 := HH.out
      rw [hset] at h2
      obtain ⟨rfl, rfl⟩ := Prod.mk.inj (Option.some.inj h2)
      clear h2
      refine (once_none 0 w1).mono ?_
      rintro e w2 ⟨rfl, rfl⟩
      go_wp2
      exact bodyPost_ret (v := .tuple #[.slice none 0 0, .int .i64 0]) (by simp [results, Try.f13, go_sem]) rfl ⟨_, rfl, Kd.V_nil _ _ _ _ _, hb⟩
    · obtain ⟨zs, hzs⟩ : ∃ zs, (wordsOf a0).map bl = zs := ⟨_, rfl⟩
      have hzl : zs.length = (wordsOf a0).length := by rw [← hzs, List.length_map]
      have hH : Holds encStr w1 g 0 zs.toArray := by
        intro j hj
        have hj' : j < (wordsOf a0).length := by rw [← hzl]; simpa using hj
        have hc := ho.cells (g := g) rfl j (.string (wordsOf a0)[j]) (by rw [List.getElem?_map, List.getElem?_eq_getElem hj']; rfl)
        have e : (⟨g, 0, none⟩ : Addr).add j = ⟨g, 0 + j, none⟩ := by unfold Addr.add; split <;> simp_all
        rw [e] at hc
        refine ⟨hc.trans ?_, by simp [World.frozen?, q2]⟩
        rw [getElem!_pos zs.toArray j hj]
        subst hzs
        simp only [List.getElem_toArray, List.getElem_map]
        show _ = some (Value.string (lb (bl _)))
        rw [lb_bl]
      have hgl : g < w1.heap.size := (Array.getElem?_eq_some_iff.1 q2).1
      have hcl := Lib.compact_length_le (sorted zs)
      have hsl : (sorted zs).length = zs.length := by unfold sorted; rw [List.length_mergeSort]
      have hset : setOf a0 = (Lib.compact (sorted zs)).map lb := by unfold setOf onceOf; rw [hzs]
      obtain ⟨cs, hcs⟩ : ∃ cs, Lib.compact (sorted zs) = cs := ⟨_, rfl⟩
      have hlen : (setOf a0).length = cs.length := by rw [hset, hcs, List.length_map]
      rw [← hzl]
      refine (once_some w.heap.size g cap zs w1 q1 hH hgl (by omega) (by omega)).mono ?_
      rintro e w2 ⟨rfl, hH2, hb2⟩
      rw [hcs] at hH2 hcl ⊢
      have h2 := HH.out
      rw [hlen] at h2
      by_cases h12 : (cs.length : Int) > 12
      · rw [if_pos h12] at h2
        obtain ⟨rfl, rfl⟩ := Prod.mk.inj (Option.some.inj h2)
        have hd : decide (12 < (cs.length : Int)) = true := decide_eq_true h12
        clear h2
        go_wp2
        exact bodyPost_ret (v := .tuple #[.slice none 0 0, .int .i64 2]) (by simp [results, Try.f13, go_sem]) rfl ⟨_, rfl, Kd.V_nil _ _ _ _ _, hb.trans hb2⟩
      · rw [if_neg h12] at h2
        obtain ⟨rfl, rfl⟩ := Prod.mk.inj (Option.some.inj h2)
        have hd : decide (12 < (cs.length : Int)) = false := decide_eq_false h12
        have hV : Kd.V Kd.string 9 w2 w.heap.size (fun k => w.heap.size ≤ k) (.slice (some ⟨g, 0, none⟩) (setOf a0).length cap) (setOf a0) := by
          refine V_of_holds q1 hH2 (fun j hj => ?_) (by omega) (by omega)
          rw [hlen] at hj
          refine ⟨by simp; omega, ?_⟩
          rw [getElem!_pos _ j (by simp; omega), hset, hcs]
          simp only [List.getElem_toArray]
          rw [List.getElem_append_left hj, List.getD_eq_getElem?_getD, List.getElem?_map, List.getElem?_eq_getElem hj]
          simp only [Option.map_some, Option.getD_some, bl_lb]
        rw [hlen] at hV
        have HV := Aside0.mk hV
        clear h2 hV
        go_wp2
        exact bodyPost_ret (v := .tuple #[.slice (some ⟨g, 0, none⟩) cs.length cap, .int .i64 0]) (by simp [results, Try.f13, go_sem]) rfl ⟨_, rfl, HV.out, hb.trans hb2⟩
end Go.Proofs.Ytpmjnggkhjjiaaa.A
