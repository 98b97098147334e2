/- Layer 11: what is read of bytes is written as it stood there, in plain words. -/
import Derived.Test.YtbigcojlpcchiaaGreatC11y
namespace Go.Proofs.YtbigcojlpcchiaaGreat.Sy
open Go Go.RowKit
set_option linter.unusedVariables false
set_option linter.unusedSimpArgs false
set_option maxRecDepth 10000
theorem ext_data (s : ByteArray) (i j : Nat) : (s.extract i j).data.toList = (s.data.toList.drop i).take (j - i) := by
  rw [ByteArray.data_extract, Array.toList_extract, List.extract_eq_take_drop]
theorem ba_ext {a b : ByteArray} (h : a.data.toList = b.data.toList) : a = b := ByteArray.ext (Array.toList_inj.1 h)
theorem ext_join (s : ByteArray) {i j k : Nat} (h1 : i ≤ j) (h2 : j ≤ k) : s.extract i j ++ s.extract j k = s.extract i k := by
  apply ba_ext
  rw [data_app, ext_data, ext_data, ext_data]
  have e : k - i = (j - i) + (k - j) := by omega
  rw [e, List.take_add, List.drop_drop, show i + (j - i) = j by omega]
theorem ext_all (s : ByteArray) : s.extract 0 s.size = s := by
  apply ba_ext
  rw [ext_data, List.drop_zero, Nat.sub_zero, ← data_len, List.take_length]
theorem u8_of (x : UInt8) : UInt8.ofNat x.toNat = x := by simp
/-- Four bytes as a number, and that number's bytes. -/
theorem numS_b4 {s : ByteArray} {a : Nat} (h : a + 4 ≤ s.size) : numS (b4 s (a : Int)) = s.extract a (a + 4) := by
  have hl : a + 4 ≤ s.data.toList.length := by rw [data_len]; exact h
  have hb : ∀ j : Nat, (h : a + j < s.data.toList.length) → btv s ((a : Int) + j) = ((s.data.toList[a + j]).toNat : Int) := fun j hj => by
    unfold btv
    rw [show ((a : Int) + j).toNat = a + j by omega, List.getD_eq_getElem?_getD, List.getElem?_eq_getElem hj]
    rfl
  have h0 := hb 0 (by omega)
  have h1 := hb 1 (by omega)
  have h2 := hb 2 (by omega)
  have h3 := hb 3 (by omega)
  have r0 := (s.data.toList[a + 0]).toNat_lt
  have r1 := (s.data.toList[a + 1]).toNat_lt
  have r2 := (s.data.toList[a + 2]).toNat_lt
  have r3 := (s.data.toList[a + 3]).toNat_lt
  have hd : (s.data.toList.drop a).take 4 = [s.data.toList[a + 0], s.data.toList[a + 1], s.data.toList[a + 2], s.data.toList[a + 3]] := by
    rw [List.drop_eq_getElem_cons (by omega), List.take_succ_cons, List.drop_eq_getElem_cons (by omega), List.take_succ_cons, List.drop_eq_getElem_cons (by omega), List.take_succ_cons, List.drop_eq_getElem_cons (by omega), List.take_succ_cons, List.take_zero]
    rfl
  apply ba_ext
  rw [ext_data, Nat.add_sub_cancel_left, hd]
  have h0' : btv s (a : Int) = ((s.data.toList[a + 0]).toNat : Int) := by rw [← h0]; simp
  have h1' : btv s ((a : Int) + 1) = ((s.data.toList[a + 1]).toNat : Int) := h1
  have h2' : btv s ((a : Int) + 2) = ((s.data.toList[a + 2]).toNat : Int) := h2
  have h3' : btv s ((a : Int) + 3) = ((s.data.toList[a + 3]).toNat : Int) := h3
  unfold numS b4
  rw [h0', h1', h2', h3']
  generalize s.data.toList[a + 0] = x0 at *
  generalize s.data.toList[a + 1] = x1 at *
  generalize s.data.toList[a + 2] = x2 at *
  generalize s.data.toList[a + 3] = x3 at *
  have q0 : (((((x0.toNat : Int) * 256 + x1.toNat) * 256 + x2.toNat) * 256 + x3.toNat) / 16777216).toNat = x0.toNat := by omega
  have q1 : (((((x0.toNat : Int) * 256 + x1.toNat) * 256 + x2.toNat) * 256 + x3.toNat) / 65536 % 256).toNat = x1.toNat := by omega
  have q2 : (((((x0.toNat : Int) * 256 + x1.toNat) * 256 + x2.toNat) * 256 + x3.toNat) / 256 % 256).toNat = x2.toNat := by omega
  have q3 : (((((x0.toNat : Int) * 256 + x1.toNat) * 256 + x2.toNat) * 256 + x3.toNat) % 256).toNat = x3.toNat := by omega
  show [UInt8.ofNat _, UInt8.ofNat _, UInt8.ofNat _, UInt8.ofNat _] = _
  rw [q0, q1, q2, q3, u8_of, u8_of, u8_of, u8_of]
theorem tNum_back {s : ByteArray} {a : Nat} (h : (tNum s (a : Int)).2.2 = 0) : s.size ≤ 65536 ∧ a + 4 ≤ s.size ∧ 0 ≤ (tNum s a).1 ∧ (tNum s a).1 ≤ 2147483647 ∧ (tNum s a).2.1 = ((a + 4 : Nat) : Int) ∧ numS (tNum s a).1 = s.extract a (a + 4) := by
  obtain ⟨h1, h2, h3, h4⟩ := tNum_ok h
  have hc := okC_iff.1 h1
  have hb := b4_range s a
  rw [h4]
  refine ⟨hc.1, by omega, hb.1, h3, rfl, numS_b4 (by omega)⟩
theorem tText_back {s : ByteArray} {a : Nat} (h : (tText s (a : Int)).2.2 = 0) : ∃ b : Nat, (tText s a).2.1 = (b : Int) ∧ a ≤ b ∧ b ≤ s.size ∧ numS (tText s a).1.size ++ (tText s a).1 = s.extract a b := by
  obtain ⟨h1, h2, h3⟩ := tText_ok h
  obtain ⟨g1, g2, g3, g4, g5, g6⟩ := tText_at h
  obtain ⟨k1, k2, k3, k4, k5, k6⟩ := tNum_back h1
  have hb := b4_range s a
  have e1 : numS ((tText s a).1.size : Int) = s.extract a (a + 4) := by rw [g6, numS_b4 k2]
  have e2 : (tText s a).1 = s.extract (a + 4) ((a : Int) + 4 + b4 s a).toNat := by rw [h3]; rfl
  refine ⟨((a : Int) + 4 + b4 s a).toNat, by rw [h3]; simp only; omega, by omega, by omega, ?_⟩
  rw [e1]
  have := ext_join s (i := a) (j := a + 4) (k := ((a : Int) + 4 + b4 s a).toNat) (by omega) (by omega)
  rw [← this, ← e2]
theorem textsB_app : ∀ (l r : List ByteArray), textsB (l ++ r) = textsB l ++ textsB r
  | [], r => by rw [List.nil_append, textsB, app_nilL]
  | x :: l, r => by rw [List.cons_append, textsB, textsB_app l r, textsB]; simp only [ByteArray.append_assoc]
theorem tTexts_back {s : ByteArray} : ∀ (n a0 a : Nat) (out : List ByteArray), a0 ≤ a → a ≤ s.size → textsB out = s.extract a0 a → (tTexts s n (a : Int) out).2.2 = 0 → ∃ b : Nat, (tTexts s n a out).2.1 = (b : Int) ∧ a ≤ b ∧ b ≤ s.size ∧ textsB (tTexts s n a out).1 = s.extract a0 b
  | 0, a0, a, out, h1, h1', h2, _ => ⟨a, rfl, Nat.le_refl _, h1', h2⟩
  | n + 1, a0, a, out, h1, h1', h2, h => by
    rw [tTexts] at h ⊢
    by_cases c : (tText s a).2.2 = 0
    · rw [if_pos c] at h ⊢
      obtain ⟨b, e1, e2, e3, e4⟩ := tText_back c
      rw [e1] at h ⊢
      have h5 : textsB (out ++ [(tText s a).1]) = s.extract a0 b := by
        rw [textsB_app, h2, textsB, textsB, app_empty, e4, ext_join s h1 e2]
      obtain ⟨b', f1, f2, f3, f4⟩ := tTexts_back n a0 b _ (by omega) e3 h5 h
      exact ⟨b', f1, by omega, f3, f4⟩
    · rw [if_neg c] at h; exact absurd h c
theorem tList_back {s : ByteArray} {a : Nat} (h : (tList s (a : Int)).2.2 = 0) : ∃ b : Nat, (tList s a).2.1 = (b : Int) ∧ a ≤ b ∧ b ≤ s.size ∧ numS (tList s a).1.length ++ textsB (tList s a).1 = s.extract a b := by
  obtain ⟨h1, h2, h3, h4⟩ := tList_ok h
  obtain ⟨g1, g2, g3, g4, g5, g6, g7⟩ := tList_at h
  obtain ⟨k1, k2, k3, k4, k5, k6⟩ := tNum_back h1
  have e0 : ((a : Int) + 4) = ((a + 4 : Nat) : Int) := by omega
  rw [e0] at h3 h4
  have hn : (⟨#[]⟩ : ByteArray) = s.extract (a + 4) (a + 4) := ba_ext (by rw [ext_data, Nat.sub_self, List.take_zero])
  obtain ⟨b, f1, f2, f3, f4⟩ := tTexts_back _ (a + 4) (a + 4) [] (Nat.le_refl _) k2 (by rw [textsB]; exact hn) h3
  rw [← h4] at f1 f4
  refine ⟨b, f1, by omega, f3, ?_⟩
  rw [g7, numS_b4 k2, f4, ext_join s (by omega) f2]
theorem endC_back {s : ByteArray} {a : Nat} (h : endC s (a : Int) = 0) : s.size = a := by
  unfold endC at h
  by_cases c : okC s (a : Int) = true
  · rw [if_pos c] at h
    have := okC_iff.1 c
    by_cases c2 : (a : Int) < s.size
    · rw [if_pos c2] at h; simp at h
    · omega
  · rw [if_neg c] at h; simp at h
theorem endE_back {s : ByteArray} {a e : Int} {b : Bool} (h : endE s a e b = 0) : e = 0 ∧ endC s a = 0 ∧ b = true := by
  unfold endE at h
  by_cases c : e = 0
  · rw [if_pos c] at h
    by_cases c2 : endC s a = 0
    · rw [if_pos c2] at h
      cases b with
      | true => exact ⟨c, c2, rfl⟩
      | false => simp at h
    · rw [if_neg c2] at h; simp at h
  · rw [if_neg c] at h; exact absurd h c
theorem takeN_back {s : ByteArray} {a e : Int} (h : (takeN s a e).2.2 = 0) : e = 0 ∧ takeN s a e = tNum s a := by
  unfold takeN at h ⊢
  by_cases c : e = 0
  · rw [if_pos c]; exact ⟨c, rfl⟩
  · rw [if_neg c] at h; exact absurd h c
theorem takeL_back {s : ByteArray} {a e : Int} (h : (takeL s a e).2.2 = 0) : e = 0 ∧ takeL s a e = tList s a := by
  unfold takeL at h ⊢
  by_cases c : e = 0
  · rw [if_pos c]; exact ⟨c, rfl⟩
  · rw [if_neg c] at h; exact absurd h c
/-- What is read of bytes as a request is written as it stood there. -/
theorem enc_dec {s : ByteArray} (h : (decQ s).2.2.2 = 0) : rightQ (decQ s).1 (decQ s).2.1 (decQ s).2.2.1 = true ∧ encQ (decQ s).1 (decQ s).2.1 (decQ s).2.2.1 = (s, 0) := by
  have hE : decE s = 0 := by
    unfold decQ at h
    by_cases c : decE s = 0
    · exact c
    · rw [if_neg c] at h; exact h
  have hq : decQ s = ((decN s).1, (decL s).1, (decC s).1, 0) := by unfold decQ; rw [if_pos hE]
  rw [hq]
  obtain ⟨e3, hend, hr⟩ := endE_back (s := s) hE
  refine ⟨hr, ?_⟩
  obtain ⟨e2, t3⟩ := takeL_back (s := s) (a := (decL s).2.1) (e := (decL s).2.2) e3
  obtain ⟨e1, t2⟩ := takeL_back (s := s) (a := (decN s).2.1) (e := (decN s).2.2) e2
  obtain ⟨e0, t1⟩ := takeN_back (s := s) (a := 0) (e := newE s) e1
  rw [← decC] at t3
  rw [← decL] at t2
  rw [← decN] at t1
  rw [t1] at e1
  obtain ⟨k1, k2, k3, k4, k5, k6⟩ := tNum_back (a := 0) e1
  have n1 : (decN s).2.1 = ((4 : Nat) : Int) := by rw [t1]; exact k5
  rw [n1] at t2
  rw [t2] at e2
  obtain ⟨b, f1, f2, f3, f4⟩ := tList_back e2
  have n2 : (decL s).2.1 = (b : Int) := by rw [t2]; exact f1
  rw [n2] at t3
  rw [t3] at e3
  obtain ⟨b', g1, g2, g3, g4⟩ := tList_back e3
  have n3 : (decC s).2.1 = (b' : Int) := by rw [t3]; exact g1
  rw [n3] at hend
  have hz := endC_back hend
  rw [encQ_ok hr]
  have j1 : numS (decN s).1 = s.extract 0 4 := by rw [t1]; exact k6
  rw [← t2] at f4
  rw [← t3] at g4
  have e : numS (decN s).1 ++ (numS (decL s).1.length ++ (textsB (decL s).1 ++ (numS (decC s).1.length ++ textsB (decC s).1))) = s := by
    rw [g4, ← ByteArray.append_assoc (a := numS (decL s).1.length), f4, j1, ext_join s f2 g2, ext_join s (by omega) (by omega), ← hz, ext_all]
  rw [e]
theorem ans_read {s : ByteArray} (h : (readA s).e = 0) : mayA (readA s).k (readA s).st (readA s).cs (readA s).m (readA s).r = true ∧ ansA (readA s).k (readA s).st (readA s).cs (readA s).m (readA s).r = (s, 0) := by
  have hE : rdX s = 0 := by
    unfold readA at h
    by_cases c : rdX s = 0
    · exact c
    · rw [if_neg c] at h; exact h
  have hq : readA s = ⟨(rdE s).1, (rdS s).1, (rdC s).1, (rdM s).1, (rdR s).1, 0⟩ := by unfold readA; rw [if_pos hE]
  rw [hq]
  obtain ⟨e5, hend, hr⟩ := endE_back (s := s) hE
  refine ⟨hr, ?_⟩
  obtain ⟨e4, t5⟩ := takeN_back (s := s) (a := (rdM s).2.1) (e := (rdM s).2.2) e5
  obtain ⟨e3, t4⟩ := takeN_back (s := s) (a := (rdC s).2.1) (e := (rdC s).2.2) e4
  obtain ⟨e2, t3⟩ := takeL_back (s := s) (a := (rdS s).2.1) (e := (rdS s).2.2) e3
  obtain ⟨e1, t2⟩ := takeN_back (s := s) (a := (rdE s).2.1) (e := (rdE s).2.2) e2
  obtain ⟨e0, t1⟩ := takeN_back (s := s) (a := 0) (e := newE s) e1
  rw [← rdR] at t5
  rw [← rdM] at t4
  rw [← rdC] at t3
  rw [← rdS] at t2
  rw [← rdE] at t1
  rw [t1] at e1
  obtain ⟨k1, k2, k3, k4, k5, k6⟩ := tNum_back (a := 0) e1
  have n1 : (rdE s).2.1 = ((4 : Nat) : Int) := by rw [t1]; exact k5
  rw [n1] at t2
  rw [t2] at e2
  obtain ⟨l1, l2, l3, l4, l5, l6⟩ := tNum_back (a := 4) e2
  have n2 : (rdS s).2.1 = ((8 : Nat) : Int) := by rw [t2]; exact l5
  rw [n2] at t3
  rw [t3] at e3
  obtain ⟨b, f1, f2, f3, f4⟩ := tList_back e3
  have n3 : (rdC s).2.1 = (b : Int) := by rw [t3]; exact f1
  rw [n3] at t4
  rw [t4] at e4
  obtain ⟨m1, m2, m3, m4, m5, m6⟩ := tNum_back e4
  have n4 : (rdM s).2.1 = ((b + 4 : Nat) : Int) := by rw [t4]; exact m5
  rw [n4] at t5
  rw [t5] at e5
  obtain ⟨o1, o2, o3, o4, o5, o6⟩ := tNum_back e5
  have n5 : (rdR s).2.1 = ((b + 4 + 4 : Nat) : Int) := by rw [t5]; exact o5
  rw [n5] at hend
  have hz := endC_back hend
  rw [ansA_ok hr]
  have j1 : numS (rdE s).1 = s.extract 0 4 := by rw [t1]; exact k6
  have j2 : numS (rdS s).1 = s.extract 4 8 := by rw [t2]; exact l6
  rw [← t3] at f4
  have j4 : numS (rdM s).1 = s.extract b (b + 4) := by rw [t4]; exact m6
  have j5 : numS (rdR s).1 = s.extract (b + 4) (b + 4 + 4) := by rw [t5]; exact o6
  have e : numS (rdE s).1 ++ (numS (rdS s).1 ++ (numS (rdC s).1.length ++ (textsB (rdC s).1 ++ (numS (rdM s).1 ++ numS (rdR s).1)))) = s := by
    rw [j4, j5, ← ByteArray.append_assoc (a := numS (rdC s).1.length), f4, j1, j2, ext_join s (i := b) (j := b + 4) (by omega) (by omega), ext_join s (i := 8) (j := b) f2 (by omega), ext_join s (i := 4) (j := 8) (by omega) (by omega), ext_join s (i := 0) (j := 4) (by omega) (by omega), ← hz, ext_all]
  rw [e]
end Go.Proofs.YtbigcojlpcchiaaGreat.Sy
