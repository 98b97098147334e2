/- The codec's plain laws, on: what is written, and what the law's own helpers give. -/
import Derived.Test.YtmddhiokioojlaaCodecLaw
import Derived.Test.YtmddhiokioojlaaAx8
import Derived.Test.YtmddhiokioojlaaAx8
import Derived.Test.YtmddhiokioojlaaAx9
namespace Go.Proofs.Ytmddhiokioojlaa.A
open Go.RowKit Go.Proofs.YtmddhiokioojlaaW.PrintWords Go.Proofs.YtmddhiokioojlaaW.PrintLast Go.Proofs.YtmddhiokioojlaaW.PrintMore
set_option linter.unusedSimpArgs false
set_option linter.unusedVariables false

def cat : List ByteArray → ByteArray
  | [] => ByteArray.empty
  | x :: r => numB x.size ++ (x ++ cat r)
theorem cat_size_cons (x : ByteArray) (r : List ByteArray) : (cat (x :: r)).size = 4 + x.size + (cat r).size := by
  simp only [cat, ByteArray.size_append, numB_size]; omega
theorem cat_few {l : List ByteArray} {m : Nat} (h : ∀ x ∈ l, x.size ≤ m) : (cat l).size ≤ (4 + m) * l.length := by
  induction l with
  | nil => exact Nat.zero_le _
  | cons x r ih =>
    rw [cat_size_cons, List.length_cons, Nat.mul_add, Nat.mul_one]
    have := ih fun y hy => h y (List.mem_cons_of_mem _ hy)
    have := h x List.mem_cons_self
    omega
theorem textOf_le {x : ByteArray} (h : x.size ≤ 65536) : textOf x = (numB x.size ++ x, 0) := by
  unfold textOf codec_Text.f
  rw [if_neg (by omega), number_some _ (by omega) (by omega)]
  simp only [Option.bind_some]
  rw [if_pos (by rw [numB_size]; omega)]
  rfl
theorem text_le {x : ByteArray} (h : x.size ≤ 65536) : codec_Text.f x = some (numB x.size ++ x, 0) := by rw [text_some, textOf_le h]
theorem runL_cat : ∀ (l : List ByteArray) (acc : ByteArray), acc.size + (cat l).size ≤ 65536 → runL acc (l.map frOf) = some (acc ++ cat l)
  | [], acc, h => by simp [runL, cat]
  | x :: r, acc, h => by
    rw [cat_size_cons] at h
    have e : (frOf x).1 = (numB x.size ++ x, true) := by
      show framedOf x = _
      unfold framedOf
      rw [textOf_le (by omega)]
      rfl
    simp only [List.map_cons, runL, e]
    rw [if_pos ⟨trivial, by simp only [ByteArray.size_append, numB_size]; omega⟩, runL_cat r _ (by simp only [ByteArray.size_append, numB_size]; omega)]
    simp only [cat, ByteArray.append_assoc]
theorem listOf_cat {l : List ByteArray} (h : l.length ≤ 1000) (hs : 4 + (cat l).size ≤ 65536) : listOf l = (numB l.length ++ cat l, 0) := by
  unfold listOf
  rw [if_neg (by omega), runL_cat l _ (by rw [numB_size]; omega)]

theorem tNum_put (x y : ByteArray) (n : Int) (h0 : 0 ≤ n) (h1 : n ≤ 2147483647) (hs : (x ++ (numB n ++ y)).size ≤ 65536) :
    tNum (x ++ (numB n ++ y)) x.size = (n, x ++ (numB n ++ y), (x.size : Int) + 4, 0) := by
  have hz : (x ++ (numB n ++ y)).size = x.size + (4 + y.size) := by simp only [ByteArray.size_append, numB_size]
  have hr : rgt (x ++ (numB n ++ y)) x.size = true := by
    unfold rgt; simp only [Bool.and_eq_true, decide_eq_true_eq]; omega
  have hb : be4 (x ++ (numB n ++ y)) x.size = n := by
    rw [be4_append_right, be4_append_left _ _ (numB_size n), be4_numB n h0 (by omega)]
  unfold tNum
  rw [if_pos hr, if_neg (by omega), hb, if_neg (by omega)]
theorem tText_put (x t y : ByteArray) (hs : (x ++ (numB t.size ++ (t ++ y))).size ≤ 65536) :
    tText (x ++ (numB t.size ++ (t ++ y))) x.size = (t, x ++ (numB t.size ++ (t ++ y)), (x.size : Int) + 4 + t.size, 0) := by
  have hz : (x ++ (numB t.size ++ (t ++ y))).size = x.size + (4 + (t.size + y.size)) := by simp only [ByteArray.size_append, numB_size]
  have h := tNum_put x (t ++ y) t.size (by omega) (by omega) hs
  have hb : be4 (x ++ (numB t.size ++ (t ++ y))) x.size = t.size := by
    rw [be4_append_right, be4_append_left _ _ (numB_size _), be4_numB _ (by omega) (by omega)]
  unfold tText
  rw [h]
  simp only [if_true]
  rw [hb, if_neg (by omega)]
  congr 1
  have e : x ++ (numB t.size ++ (t ++ y)) = (x ++ numB t.size) ++ t ++ y := by simp only [ByteArray.append_assoc]
  have hq : (x ++ numB t.size).size = x.size + 4 := by simp only [ByteArray.size_append, numB_size]
  obtain ⟨u, hu⟩ : ∃ u, x ++ numB t.size = u := ⟨_, rfl⟩
  rw [e]
  rw [hu] at hq ⊢
  rw [ByteArray.append_assoc, ByteArray.extract_append, ByteArray.extract_append, hq]
  have z1 : u.extract ((x.size : Int) + 4).toNat ((x.size : Int) + 4 + t.size).toNat = ByteArray.empty := by
    apply ByteArray.size_eq_zero_iff.1; rw [ByteArray.size_extract]; omega
  have z2 : y.extract (((x.size : Int) + 4).toNat - (x.size + 4) - t.size) (((x.size : Int) + 4 + t.size).toNat - (x.size + 4) - t.size) = ByteArray.empty := by
    apply ByteArray.size_eq_zero_iff.1; rw [ByteArray.size_extract]; omega
  rw [z1, z2, ByteArray.empty_append, ByteArray.append_empty]
  rw [show ((x.size : Int) + 4).toNat - (x.size + 4) = 0 by omega, show ((x.size : Int) + 4 + t.size).toNat - (x.size + 4) = t.size by omega]
  exact ByteArray.extract_zero_size
theorem tTexts_put : ∀ (l : List ByteArray) (x y : ByteArray), (x ++ (cat l ++ y)).size ≤ 65536 → tTexts (x ++ (cat l ++ y)) l.length x.size = (l, (x.size : Int) + (cat l).size, 0)
  | [], x, y, h => by simp [tTexts, cat]
  | t :: r, x, y, h => by
    have e : x ++ (cat (t :: r) ++ y) = x ++ (numB t.size ++ (t ++ (cat r ++ y))) := by simp only [cat, ByteArray.append_assoc]
    have hs := cat_size_cons t r
    rw [e] at h ⊢
    have h1 := tText_put x t (cat r ++ y) h
    have e2 : x ++ (numB t.size ++ (t ++ (cat r ++ y))) = (x ++ (numB t.size ++ t)) ++ (cat r ++ y) := by simp only [ByteArray.append_assoc]
    have h2 := tTexts_put r (x ++ (numB t.size ++ t)) y (by rw [← e2]; exact h)
    rw [← e2, show (((x ++ (numB t.size ++ t)).size : Nat) : Int) = (x.size : Int) + 4 + t.size by simp only [ByteArray.size_append, numB_size]; omega] at h2
    rw [List.length_cons, tTexts_yes (by rw [h1]) (by rw [h1]; simp only; rw [h2]), h1]
    simp only
    rw [h2]
    simp only [Prod.mk.injEq, true_and, and_true]
    omega
theorem tList_put (l : List ByteArray) (x y : ByteArray) (hl : l.length ≤ 1000) (hs : (x ++ (numB l.length ++ (cat l ++ y))).size ≤ 65536) :
    tList (x ++ (numB l.length ++ (cat l ++ y))) x.size = (l, x ++ (numB l.length ++ (cat l ++ y)), (x.size : Int) + 4 + (cat l).size, 0) := by
  have h := tNum_put x (cat l ++ y) l.length (by omega) (by omega) hs
  have hb : be4 (x ++ (numB l.length ++ (cat l ++ y))) x.size = l.length := by
    rw [be4_append_right, be4_append_left _ _ (numB_size _), be4_numB _ (by omega) (by omega)]
  have e2 : x ++ (numB l.length ++ (cat l ++ y)) = (x ++ numB l.length) ++ (cat l ++ y) := by simp only [ByteArray.append_assoc]
  have h2 := tTexts_put l (x ++ numB l.length) y (by rw [← e2]; exact hs)
  rw [← e2, show (((x ++ numB l.length).size : Nat) : Int) = (x.size : Int) + 4 by simp only [ByteArray.size_append, numB_size]; omega] at h2
  unfold tList
  rw [h]
  simp only [if_true]
  rw [hb, if_neg (by omega), Int.toNat_natCast, h2]
  simp only [if_true]

/-! The other way: what is taken stood there. -/
theorem bt_nat (s : ByteArray) (i : Nat) (h : i < s.size) : bt s (i : Int) = (s[i].toNat : Int) := by
  unfold bt; simp only [Int.toNat_natCast]; rw [dif_pos h]
theorem numB_be4 (s : ByteArray) (a : Int) (h0 : 0 ≤ a) (h : a + 4 ≤ (s.size : Int)) : numB (be4 s a) = s.extract a.toNat (a + 4).toNat := by
  have r0 := bt_range s a; have r1 := bt_range s (a + 1); have r2 := bt_range s (a + 2); have r3 := bt_range s (a + 3)
  obtain ⟨n, rfl⟩ := Int.eq_ofNat_of_zero_le h0
  have b0 := bt_nat s n (by omega); have b1 := bt_nat s (n + 1) (by omega); have b2 := bt_nat s (n + 2) (by omega); have b3 := bt_nat s (n + 3) (by omega)
  rw [show ((n + 1 : Nat) : Int) = (n : Int) + 1 by omega] at b1
  rw [show ((n + 2 : Nat) : Int) = (n : Int) + 2 by omega] at b2
  rw [show ((n + 3 : Nat) : Int) = (n : Int) + 3 by omega] at b3
  have e0 : be4 s n / 16777216 % 256 = bt s n := by unfold be4; omega
  have e1 : be4 s n / 65536 % 256 = bt s (n + 1) := by unfold be4; omega
  have e2 : be4 s n / 256 % 256 = bt s (n + 2) := by unfold be4; omega
  have e3 : be4 s n % 256 = bt s (n + 3) := by unfold be4; omega
  unfold numB
  rw [e0, e1, e2, e3, b0, b1, b2, b3]
  have hz : (s.extract (n : Int).toNat ((n : Int) + 4).toNat).size = 4 := by rw [ByteArray.size_extract]; omega
  apply ByteArray.ext_getElem (by rw [hz]; rfl)
  intro i hi hi'
  rw [ByteArray.getElem_extract]
  have : i < 4 := by rw [hz] at hi'; exact hi'
  match i, this with
  | 0, _ => simp [strOfNums, ByteArray.getElem_eq_getElem_data]
  | 1, _ => simp [strOfNums, ByteArray.getElem_eq_getElem_data]
  | 2, _ => simp [strOfNums, ByteArray.getElem_eq_getElem_data]
  | 3, _ => simp [strOfNums, ByteArray.getElem_eq_getElem_data]
theorem tText_back {s : ByteArray} {a : Int} (h : (tText s a).2.2.2 = 0) : numB (tText s a).1.size ++ (tText s a).1 = s.extract a.toNat (tText s a).2.2.1.toNat ∧ a + 4 + (tText s a).1.size = (tText s a).2.2.1 ∧ 0 ≤ a ∧ (tText s a).2.2.1 ≤ s.size := by
  obtain ⟨h1, h2, e⟩ := tText_ok h
  obtain ⟨hr, h4, hm, _⟩ := tNum_ok h1
  obtain ⟨g1, g2, g3⟩ := rgt_true hr
  have hb := be4_range s a
  rw [e]
  simp only
  have hz : (s.extract (a + 4).toNat (a + 4 + be4 s a).toNat).size = (be4 s a).toNat := by rw [ByteArray.size_extract]; omega
  refine ⟨?_, by rw [hz]; omega, g2, by omega⟩
  rw [hz, show (((be4 s a).toNat : Nat) : Int) = be4 s a by omega, numB_be4 s a g2 h4, ByteArray.extract_append_extract]
  congr 1 <;> omega
theorem tTexts_back {s : ByteArray} : ∀ (n : Nat) (a : Int), (tTexts s n a).2.2 = 0 → 0 ≤ a → a ≤ s.size → cat (tTexts s n a).1 = s.extract a.toNat (tTexts s n a).2.1.toNat ∧ a ≤ (tTexts s n a).2.1 ∧ (tTexts s n a).2.1 ≤ s.size
  | 0, a, _, h0, h1 => by
    refine ⟨?_, Int.le_refl _, h1⟩
    simp only [tTexts, cat]
    symm
    apply ByteArray.size_eq_zero_iff.1; rw [ByteArray.size_extract]; omega
  | n + 1, a, h, h0, h1 => by
    by_cases k1 : (tText s a).2.2.2 = 0
    · by_cases k3 : (tTexts s n (tText s a).2.2.1).2.2 = 0
      · rw [tTexts_yes k1 k3]
        obtain ⟨b1, b2, b3, b4⟩ := tText_back k1
        obtain ⟨c1, c2, c3⟩ := tTexts_back n _ k3 (by omega) b4
        simp only [cat]
        refine ⟨?_, by omega, c3⟩
        rw [← ByteArray.append_assoc, b1, c1, ByteArray.extract_append_extract]
        congr 1 <;> omega
      · rw [tTexts_no k1 k3] at h; exact absurd h k3
    · rw [tTexts_not k1] at h; exact absurd h k1
theorem tList_ok {s : ByteArray} {a : Int} (h : (tList s a).2.2.2 = 0) : (tNum s a).2.2.2 = 0 ∧ be4 s a ≤ 1000 ∧ (tTexts s (be4 s a).toNat (a + 4)).2.2 = 0 ∧ tList s a = ((tTexts s (be4 s a).toNat (a + 4)).1, s, (tTexts s (be4 s a).toNat (a + 4)).2.1, 0) := by
  unfold tList at h ⊢
  by_cases h1 : (tNum s a).2.2.2 = 0
  · rw [if_pos h1] at h ⊢
    by_cases h5 : be4 s a > 1000
    · rw [if_pos h5] at h; cases h
    · rw [if_neg h5] at h ⊢
      by_cases h6 : (tTexts s (be4 s a).toNat (a + 4)).2.2 = 0
      · rw [if_pos h6] at h ⊢; exact ⟨h1, by omega, h6, rfl⟩
      · rw [if_neg h6] at h; exact absurd h h6
  · rw [if_neg h1] at h; exact absurd h h1
theorem tList_back {s : ByteArray} {a : Int} (h : (tList s a).2.2.2 = 0) : numB (tList s a).1.length ++ cat (tList s a).1 = s.extract a.toNat (tList s a).2.2.1.toNat ∧ a + 4 ≤ (tList s a).2.2.1 ∧ (tList s a).2.2.1 ≤ s.size ∧ (tList s a).1.length ≤ 1000 ∧ 0 ≤ a ∧ a + 4 + (cat (tList s a).1).size = (tList s a).2.2.1 := by
  obtain ⟨h1, h2, h3, e⟩ := tList_ok h
  obtain ⟨hr, h4, hm, _⟩ := tNum_ok h1
  obtain ⟨g1, g2, g3⟩ := rgt_true hr
  have hb := be4_range s a
  obtain ⟨c1, c2, c3⟩ := tTexts_back _ _ h3 (by omega) h4
  obtain ⟨_, d2, _⟩ := tTexts_at _ _ h3
  rw [e]
  simp only
  refine ⟨?_, c2, c3, by omega, g2, ?_⟩
  · rw [c1, d2, show (((be4 s a).toNat : Nat) : Int) = be4 s a by omega, numB_be4 s a g2 h4, ByteArray.extract_append_extract]
    congr 1 <;> omega
  · rw [c1, ByteArray.size_extract]; omega

/-! With bytes less. -/
theorem be4_cut (s : ByteArray) (a : Int) (m : Nat) (h0 : 0 ≤ a) (h : a + 4 ≤ m) (hm : m ≤ s.size) : be4 (s.extract 0 m) a = be4 s a := by
  obtain ⟨n, rfl⟩ := Int.eq_ofNat_of_zero_le h0
  have e : ∀ j : Nat, j < 4 → bt (s.extract 0 m) ((n : Int) + j) = bt s ((n : Int) + j) := by
    intro j hj
    have := bt_extract s 0 m (n + j) hm (by omega)
    rw [Nat.zero_add] at this
    exact this
  have e0 := e 0 (by omega); have e1 := e 1 (by omega); have e2 := e 2 (by omega); have e3 := e 3 (by omega)
  simp only [Int.natCast_zero, Int.add_zero, Int.natCast_one, Int.cast_ofNat_Int] at e0 e1 e2 e3
  unfold be4
  rw [e0, e1, e2, e3]
theorem rgt_cut {s : ByteArray} {a : Int} {m : Nat} (hr : rgt s a = true) (h : a ≤ m) (hm : m ≤ s.size) : rgt (s.extract 0 m) a = true := by
  obtain ⟨h1, h2, h3⟩ := rgt_true hr
  have hz : (s.extract 0 m).size = m := by rw [ByteArray.size_extract]; omega
  unfold rgt; simp only [Bool.and_eq_true, decide_eq_true_eq]; omega
theorem tNum_cut {s : ByteArray} {a : Int} {m : Nat} (h : (tNum s a).2.2.2 = 0) (hm : m ≤ s.size) (ha : a ≤ m) :
    tNum (s.extract 0 m) a = if a + 4 ≤ m then (be4 s a, s.extract 0 m, a + 4, 0) else (0, s.extract 0 m, a, 10) := by
  obtain ⟨hr, h4, hx, e⟩ := tNum_ok h
  obtain ⟨h1, h2, h3⟩ := rgt_true hr
  have hz : (s.extract 0 m).size = m := by rw [ByteArray.size_extract]; omega
  unfold tNum
  rw [if_pos (rgt_cut hr ha hm), hz]
  by_cases k : a + 4 ≤ m
  · rw [if_neg (by omega), be4_cut s a m h2 k hm, if_neg (by omega), if_pos k]
  · rw [if_pos (by omega), if_neg k]
theorem tText_cut {s : ByteArray} {a : Int} {m : Nat} (h : (tText s a).2.2.2 = 0) (hm : m ≤ s.size) (ha : a ≤ m) :
    tText (s.extract 0 m) a = if (tText s a).2.2.1 ≤ m then ((tText s a).1, s.extract 0 m, (tText s a).2.2.1, 0) else (⟨#[]⟩, s.extract 0 m, a, 10) := by
  obtain ⟨h1, h2, e⟩ := tText_ok h
  obtain ⟨hr, h4, hx, _⟩ := tNum_ok h1
  obtain ⟨g1, g2, g3⟩ := rgt_true hr
  have hb := be4_range s a
  have hz : (s.extract 0 m).size = m := by rw [ByteArray.size_extract]; omega
  rw [e]
  unfold tText
  rw [tNum_cut h1 hm ha]
  simp only
  by_cases k : a + 4 ≤ m
  · rw [if_pos k, be4_cut s a m g2 k hm, hz]
    simp only [if_true]
    by_cases k2 : a + 4 + be4 s a ≤ m
    · rw [if_neg (by omega), if_pos k2, ByteArray.extract_extract]
      congr 2 <;> omega
    · rw [if_pos (by omega), if_neg k2]
  · rw [if_neg k, if_neg (by intro h; cases h), if_neg (by omega)]
theorem tTexts_cut {s : ByteArray} {m : Nat} (hm : m ≤ s.size) : ∀ (n : Nat) (a : Int), (tTexts s n a).2.2 = 0 → 0 ≤ a → a ≤ m → m < (tTexts s n a).2.1 → (tTexts (s.extract 0 m) n a).2.2 = 10
  | 0, a, _, h0, ha, h => by simp only [tTexts] at h; omega
  | n + 1, a, h, h0, ha, hb => by
    by_cases k1 : (tText s a).2.2.2 = 0
    · by_cases k3 : (tTexts s n (tText s a).2.2.1).2.2 = 0
      · rw [tTexts_yes k1 k3] at hb
        simp only at hb
        have hc := tText_cut k1 hm ha
        obtain ⟨b1, b2, b3, b4⟩ := tText_back k1
        by_cases k : (tText s a).2.2.1 ≤ m
        · rw [if_pos k] at hc
          have ih := tTexts_cut hm n _ k3 (by omega) k hb
          have c1 : (tText (s.extract 0 m) a).2.2.2 = 0 := by rw [hc]
          have c2 : (tText (s.extract 0 m) a).2.2.1 = (tText s a).2.2.1 := by rw [hc]
          rw [tTexts_no c1 (by rw [c2, ih]; decide), c2, ih]
        · rw [if_neg k] at hc
          have c1 : (tText (s.extract 0 m) a).2.2.2 = 10 := by rw [hc]
          rw [tTexts_not (by rw [c1]; decide), c1]
      · rw [tTexts_no k1 k3] at h; exact absurd h k3
    · rw [tTexts_not k1] at h; exact absurd h k1
theorem tList_cut {s : ByteArray} (h : (tList s 0).2.2.2 = 0) : (tList (s.extract 0 ((tList s 0).2.2.1 - 1).toNat) 0).2.2.2 = 10 ∧ (tList (s.extract 0 ((tList s 0).2.2.1 - 1).toNat) 0).2.2.1 = 0 := by
  obtain ⟨h1, h2, h3, e⟩ := tList_ok h
  obtain ⟨hr, h4, hm, _⟩ := tNum_ok h1
  have hb := be4_range s 0
  obtain ⟨_, p2, p3, _⟩ := tList_back h
  obtain ⟨m, hmm⟩ : ∃ m, ((tList s 0).2.2.1 - 1).toNat = m := ⟨_, rfl⟩
  rw [hmm]
  have hN := tNum_cut (m := m) h1 (by omega) (by omega)
  by_cases k : (0 : Int) + 4 ≤ m
  · rw [if_pos k] at hN
    have hT := tTexts_cut (m := m) (by omega) _ _ h3 (by omega) (by omega) (by rw [e] at hmm p2; simp only at hmm p2; omega)
    unfold tList
    rw [hN]
    simp only [if_true]
    rw [be4_cut s 0 m (by omega) k (by omega), if_neg (by omega), if_neg (by rw [hT]; decide), hT]
    exact ⟨rfl, rfl⟩
  · rw [if_neg k] at hN
    unfold tList
    rw [hN]
    exact ⟨rfl, rfl⟩
theorem tNum_hold (s : ByteArray) (a : Int) : (tNum s a).2.1 = s := by unfold tNum; repeat' split
                                                                       all_goals rfl
end Go.Proofs.Ytmddhiokioojlaa.A
