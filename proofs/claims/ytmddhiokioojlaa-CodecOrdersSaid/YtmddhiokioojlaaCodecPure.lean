/- What the codec's functions answer, in plain words: numbers, texts and lists are taken. -/
import Derived.Test.YtmddhiokioojlaaAx7
import Derived.Test.YtmddhiokioojlaaAx4
namespace Go.Proofs.Ytmddhiokioojlaa.A
open Go.RowKit Go.Proofs.YtmddhiokioojlaaW.PrintWords Go.Proofs.YtmddhiokioojlaaW.PrintLast Go.Proofs.YtmddhiokioojlaaW.PrintMore

theorem wrap64_id {n : Int} (h0 : -9223372036854775808 ≤ n) (h1 : n ≤ 9223372036854775807) : wrap64 n = n := by unfold wrap64; omega
theorem or_byte (n b : Int) (hn0 : 0 ≤ n) (hn : n ≤ 16777215) (hb0 : 0 ≤ b) (hb : b ≤ 255) : Go.bits .or .i64 (wrap64 (n * 256)) (wrap64 b) = n * 256 + b := by
  rw [wrap64_id (by omega) (by omega), wrap64_id (by omega) (by omega)]
  obtain ⟨m, rfl⟩ := Int.eq_ofNat_of_zero_le hn0
  obtain ⟨c, rfl⟩ := Int.eq_ofNat_of_zero_le hb0
  have h1 : (m * 256) ||| c = m * 256 + c := by
    have h := Nat.shiftLeft_add_eq_or_of_lt (i := 8) (show c < 2 ^ 8 by omega) m
    rw [Nat.shiftLeft_eq, show (2 : Nat) ^ 8 = 256 from rfl] at h
    exact h.symm
  have hx : (BitVec.ofInt 64 ((m * 256 : Nat) : Int)).toNat = m * 256 := by
    rw [BitVec.ofInt_natCast, BitVec.toNat_ofNat]; exact Nat.mod_eq_of_lt (by omega)
  have hy : (BitVec.ofInt 64 (c : Int)).toNat = c := by
    rw [BitVec.ofInt_natCast, BitVec.toNat_ofNat]; exact Nat.mod_eq_of_lt (by omega)
  show IntKind.i64.wrap ((BitVec.ofInt 64 ((m : Int) * 256) ||| BitVec.ofInt 64 (c : Int)).toNat : Int) = _
  rw [show (m : Int) * 256 = ((m * 256 : Nat) : Int) by omega, BitVec.toNat_or, hx, hy, h1]
  rw [IntKind.wrap_i64]
  omega

theorem bt_extract (s : ByteArray) (a b : Nat) (j : Nat) (hb : b ≤ s.size) (hj : a + j < b) : bt (s.extract a b) j = bt s (a + j : Nat) := by
  unfold bt
  simp only [Int.toNat_natCast, ByteArray.size_extract]
  rw [dif_pos (by omega), dif_pos (by omega)]
  simp [ByteArray.getElem_extract]

def rgt (s : ByteArray) (a : Int) : Bool := decide ((s.size : Int) ≤ 65536) && (decide (a ≥ 0) && decide (a ≤ (s.size : Int)))
theorem rgt_true {s : ByteArray} {a : Int} (h : rgt s a = true) : (s.size : Int) ≤ 65536 ∧ 0 ≤ a ∧ a ≤ (s.size : Int) := by
  unfold rgt at h; simp only [Bool.and_eq_true, decide_eq_true_eq] at h; exact ⟨h.1, h.2.1, h.2.2⟩
theorem right_eq (s : ByteArray) (a : Int) : codec_right.f s a = some (rgt s a) := by
  unfold codec_right.f rgt
  by_cases h1 : (s.size : Int) ≤ 65536
  · by_cases h2 : a ≥ 0
    · simp [h1, h2]
    · simp [h1, h2]
  · simp [h1]
def be4 (s : ByteArray) (i : Int) : Int := ((bt s i * 256 + bt s (i + 1)) * 256 + bt s (i + 2)) * 256 + bt s (i + 3)

def tNum (s : ByteArray) (a : Int) : Int × ByteArray × Int × Int :=
  if rgt s a = true then (if (s.size : Int) - a < 4 then (0, s, a, 10) else if be4 s a > 2147483647 then (0, s, a, 13) else (be4 s a, s, a + 4, 0)) else (0, s, a, 1)
def tText (s : ByteArray) (a : Int) : ByteArray × ByteArray × Int × Int :=
  if (tNum s a).2.2.2 = 0 then (if (s.size : Int) - (a + 4) < be4 s a then (⟨#[]⟩, s, a, 10) else (s.extract (a + 4).toNat (a + 4 + be4 s a).toNat, s, a + 4 + be4 s a, 0)) else (⟨#[]⟩, s, a, (tNum s a).2.2.2)
/-- So many texts, one behind the other: the texts, the place behind them, the error. -/
def tTexts (s : ByteArray) : Nat → Int → List ByteArray × Int × Int
  | 0, a => ([], a, 0)
  | n + 1, a => if (tText s a).2.2.2 = 0 then (if (tTexts s n (tText s a).2.2.1).2.2 = 0 then ((tText s a).1 :: (tTexts s n (tText s a).2.2.1).1, (tTexts s n (tText s a).2.2.1).2.1, 0) else ([], a, (tTexts s n (tText s a).2.2.1).2.2)) else ([], a, (tText s a).2.2.2)
def tList (s : ByteArray) (a : Int) : List ByteArray × ByteArray × Int × Int :=
  if (tNum s a).2.2.2 = 0 then (if be4 s a > 1000 then ([], s, a, 13) else if (tTexts s (be4 s a).toNat (a + 4)).2.2 = 0 then ((tTexts s (be4 s a).toNat (a + 4)).1, s, (tTexts s (be4 s a).toNat (a + 4)).2.1, 0) else ([], s, a, (tTexts s (be4 s a).toNat (a + 4)).2.2)) else ([], s, a, (tNum s a).2.2.2)

theorem be4_range (s : ByteArray) (i : Int) : 0 ≤ be4 s i ∧ be4 s i ≤ 4294967295 := by
  have h0 := bt_range s i; have h1 := bt_range s (i + 1); have h2 := bt_range s (i + 2); have h3 := bt_range s (i + 3)
  unfold be4; omega

theorem part_ok (s : ByteArray) (a n : Int) (hr : rgt s a = true) (hn0 : 0 ≤ n) (hn : n ≤ (s.size : Int) - a) :
    codec_part.f s a n = some (s.extract a.toNat (a + n).toNat, s, a + n, 0) := by
  obtain ⟨h1, h2, h3⟩ := rgt_true hr
  unfold codec_part.f
  rw [right_eq, hr]
  simp only [Option.bind_some, if_true]
  rw [wrap64_id (by omega) (by omega), if_neg (by omega), if_pos h2, if_pos h3, if_pos hn0, if_pos (by omega), wrap64_id (by omega) (by omega)]
  congr 2
  rw [ByteArray.extract_extract]
  congr 1
  omega
theorem part_short (s : ByteArray) (a n : Int) (hr : rgt s a = true) (hn : (s.size : Int) - a < n) : codec_part.f s a n = some (⟨#[]⟩, s, a, 10) := by
  obtain ⟨h1, h2, h3⟩ := rgt_true hr
  unfold codec_part.f
  rw [right_eq, hr]
  simp only [Option.bind_some, if_true]
  rw [wrap64_id (by omega) (by omega), if_pos hn]
theorem part_arg (s : ByteArray) (a n : Int) (hr : rgt s a = false) : codec_part.f s a n = some (⟨#[]⟩, s, a, 1) := by
  unfold codec_part.f
  rw [right_eq, hr]
  rfl

theorem be4_extract (s : ByteArray) (a : Int) (h0 : 0 ≤ a) (h : a + 4 ≤ (s.size : Int)) : be4 (s.extract a.toNat (a + 4).toNat) 0 = be4 s a := by
  obtain ⟨n, rfl⟩ := Int.eq_ofNat_of_zero_le h0
  have e : ∀ j : Nat, j < 4 → bt (s.extract ((n : Int).toNat) ((n : Int) + 4).toNat) (j : Int) = bt s ((n : Int) + j) := by
    intro j hj
    have := bt_extract s n (n + 4) j (by omega) (by omega)
    rw [Int.toNat_natCast, show ((n : Int) + 4).toNat = n + 4 by omega, this]
    congr 1
  have e0 := e 0 (by omega); have e1 := e 1 (by omega); have e2 := e 2 (by omega); have e3 := e 3 (by omega)
  unfold be4
  simp only [Int.zero_add]
  rw [show (0 : Int) = ((0 : Nat) : Int) from rfl, e0, show (1 : Int) = ((1 : Nat) : Int) from rfl, e1, show (2 : Int) = ((2 : Nat) : Int) from rfl, e2, show (3 : Int) = ((3 : Nat) : Int) from rfl, e3]
  simp

theorem num_loop (s t : ByteArray) (b' : Int) (hs : s.size = 4) (k : Nat) (hk : 5 ≤ k) (x0 : ByteArray) (x1 : Int) :
    codec_TakeNumber.l0 k 0 (bytesOf s) ((bytesOf s).length : Int) 0 x0 x1 t b' = if be4 s 0 > 2147483647 then some (0, x0, x1, 13) else some (be4 s 0, t, b', 0) := by
  obtain ⟨k, rfl⟩ : ∃ m, k = m + 5 := ⟨k - 5, by omega⟩
  have hl : ((bytesOf s).length : Int) = 4 := by rw [bytesOf_length, hs]; rfl
  have r0 := bt_range s 0; have r1 := bt_range s 1; have r2 := bt_range s 2; have r3 := bt_range s 3
  rw [hl]
  unfold codec_TakeNumber.l0
  rw [if_pos (by omega), if_pos (by omega), if_pos (by omega), rd_bytesOf, or_byte _ _ (by omega) (by omega) r0.1 r0.2, wrap64_id (n := 0 + 1) (by omega) (by omega)]
  unfold codec_TakeNumber.l0
  rw [if_pos (by omega), if_pos (by omega), if_pos (by omega), rd_bytesOf, show (0 : Int) + 1 = 1 from rfl, or_byte _ _ (by omega) (by omega) r1.1 r1.2, wrap64_id (n := 1 + 1) (by omega) (by omega)]
  unfold codec_TakeNumber.l0
  rw [if_pos (by omega), if_pos (by omega), if_pos (by omega), rd_bytesOf, show (1 : Int) + 1 = 2 from rfl, or_byte _ _ (by omega) (by omega) r2.1 r2.2, wrap64_id (n := 2 + 1) (by omega) (by omega)]
  unfold codec_TakeNumber.l0
  rw [if_pos (by omega), if_pos (by omega), if_pos (by omega), rd_bytesOf, show (2 : Int) + 1 = 3 from rfl, or_byte _ _ (by omega) (by omega) r3.1 r3.2, wrap64_id (n := 3 + 1) (by omega) (by omega)]
  unfold codec_TakeNumber.l0
  rw [if_neg (by omega)]
  have e : (((0 * 256 + bt s 0) * 256 + bt s 1) * 256 + bt s 2) * 256 + bt s 3 = be4 s 0 := by unfold be4; simp
  rw [e]

theorem num_eq (s : ByteArray) (a : Int) (k : Nat) (hk : 5 ≤ k) : codec_TakeNumber.f k s a = some (tNum s a) := by
  unfold codec_TakeNumber.f tNum
  by_cases hr : rgt s a = true
  · obtain ⟨h1, h2, h3⟩ := rgt_true hr
    rw [if_pos hr]
    by_cases h4 : (s.size : Int) - a < 4
    · rw [part_short s a 4 hr h4, if_pos h4]
      rfl
    · rw [part_ok s a 4 hr (by omega) (by omega), if_neg h4]
      simp only [Option.bind_some, if_true]
      have hz : (s.extract a.toNat (a + 4).toNat).size = 4 := by rw [ByteArray.size_extract]; omega
      unfold conv_bytes.f
      rw [if_pos (by omega)]
      simp only [Option.bind_some]
      rw [num_loop _ s _ hz k hk, be4_extract s a h2 (by omega)]
      split <;> rfl
  · rw [part_arg s a 4 (by simpa using hr), if_neg hr]
    rfl

theorem tNum_ok {s : ByteArray} {a : Int} (h : (tNum s a).2.2.2 = 0) : rgt s a = true ∧ a + 4 ≤ (s.size : Int) ∧ be4 s a ≤ 2147483647 ∧ tNum s a = (be4 s a, s, a + 4, 0) := by
  unfold tNum at h ⊢
  by_cases hr : rgt s a = true
  · rw [if_pos hr] at h ⊢
    by_cases h4 : (s.size : Int) - a < 4
    · rw [if_pos h4] at h; cases h
    · rw [if_neg h4] at h ⊢
      by_cases h5 : be4 s a > 2147483647
      · rw [if_pos h5] at h; cases h
      · exact ⟨hr, by omega, by omega, by rw [if_neg h5]⟩
  · rw [if_neg hr] at h; cases h
theorem tNum_no {s : ByteArray} {a : Int} (h : (tNum s a).2.2.2 ≠ 0) : tNum s a = (0, s, a, (tNum s a).2.2.2) := by
  by_cases hr : rgt s a = true
  · by_cases h4 : (s.size : Int) - a < 4
    · unfold tNum; rw [if_pos hr, if_pos h4]
    · by_cases h5 : be4 s a > 2147483647
      · unfold tNum; rw [if_pos hr, if_neg h4, if_pos h5]
      · exfalso; apply h; unfold tNum; rw [if_pos hr, if_neg h4, if_neg h5]
  · unfold tNum; rw [if_neg hr]

theorem rgt_next {s : ByteArray} {a : Int} (hr : rgt s a = true) (n : Int) (h0 : 0 ≤ n) (h : a + n ≤ (s.size : Int)) : rgt s (a + n) = true := by
  obtain ⟨h1, h2, h3⟩ := rgt_true hr
  unfold rgt; simp only [Bool.and_eq_true, decide_eq_true_eq]; omega

theorem text_eq (s : ByteArray) (a : Int) (k : Nat) (hk : 5 ≤ k) : codec_TakeText.f k s a = some (tText s a) := by
  unfold codec_TakeText.f codec_many_string_34.f
  rw [num_eq s a k hk]
  unfold tText
  by_cases h : (tNum s a).2.2.2 = 0
  · obtain ⟨hr, h4, hm, e⟩ := tNum_ok h
    have hb := be4_range s a
    rw [e]
    simp only [Option.bind_some, if_true]
    by_cases h5 : (s.size : Int) - (a + 4) < be4 s a
    · rw [part_short s (a + 4) _ (rgt_next hr 4 (by omega) (by omega)) h5, if_pos h5]; rfl
    · rw [part_ok s (a + 4) _ (rgt_next hr 4 (by omega) (by omega)) hb.1 (by omega), if_neg h5]; rfl
  · rw [tNum_no h]
    simp only [Option.bind_some]
    rw [if_neg h, if_neg h]
    rfl
theorem tText_ok {s : ByteArray} {a : Int} (h : (tText s a).2.2.2 = 0) : (tNum s a).2.2.2 = 0 ∧ a + 4 + be4 s a ≤ (s.size : Int) ∧ tText s a = (s.extract (a + 4).toNat (a + 4 + be4 s a).toNat, s, a + 4 + be4 s a, 0) := by
  unfold tText at h ⊢
  by_cases h1 : (tNum s a).2.2.2 = 0
  · rw [if_pos h1] at h ⊢
    by_cases h5 : (s.size : Int) - (a + 4) < be4 s a
    · rw [if_pos h5] at h; cases h
    · exact ⟨h1, by omega, by rw [if_neg h5]⟩
  · rw [if_neg h1] at h; exact absurd h h1
theorem tText_no {s : ByteArray} {a : Int} (h : (tText s a).2.2.2 ≠ 0) : tText s a = (⟨#[]⟩, s, a, (tText s a).2.2.2) := by
  by_cases h1 : (tNum s a).2.2.2 = 0
  · by_cases h5 : (s.size : Int) - (a + 4) < be4 s a
    · unfold tText; rw [if_pos h1, if_pos h5]
    · exfalso; apply h; unfold tText; rw [if_pos h1, if_neg h5]
  · unfold tText; rw [if_neg h1]

theorem tTexts_yes {s : ByteArray} {d : Nat} {a : Int} (h1 : (tText s a).2.2.2 = 0) (h3 : (tTexts s d (tText s a).2.2.1).2.2 = 0) :
    tTexts s (d + 1) a = ((tText s a).1 :: (tTexts s d (tText s a).2.2.1).1, (tTexts s d (tText s a).2.2.1).2.1, 0) := by
  show (if _ then _ else _) = _
  rw [if_pos h1, if_pos h3]
theorem tTexts_no {s : ByteArray} {d : Nat} {a : Int} (h1 : (tText s a).2.2.2 = 0) (h3 : (tTexts s d (tText s a).2.2.1).2.2 ≠ 0) :
    tTexts s (d + 1) a = ([], a, (tTexts s d (tText s a).2.2.1).2.2) := by
  show (if _ then _ else _) = _
  rw [if_pos h1, if_neg h3]
theorem tTexts_not {s : ByteArray} {d : Nat} {a : Int} (h1 : (tText s a).2.2.2 ≠ 0) : tTexts s (d + 1) a = ([], a, (tText s a).2.2.2) := by
  show (if _ then _ else _) = _
  rw [if_neg h1]
theorem tTexts_at {s : ByteArray} : ∀ (n : Nat) (a : Int), (tTexts s n a).2.2 = 0 → a + 4 * n ≤ (tTexts s n a).2.1 ∧ (tTexts s n a).1.length = n ∧ (n ≠ 0 → (tTexts s n a).2.1 ≤ (s.size : Int))
  | 0, a, _ => ⟨by simp [tTexts], by simp [tTexts], fun h => absurd rfl h⟩
  | n + 1, a, h => by
    unfold tTexts at h ⊢
    by_cases h1 : (tText s a).2.2.2 = 0
    · rw [if_pos h1] at h ⊢
      obtain ⟨h2, h3, e⟩ := tText_ok h1
      have hb := be4_range s a
      rw [e] at h ⊢
      simp only at h ⊢
      by_cases h4 : (tTexts s n (a + 4 + be4 s a)).2.2 = 0
      · rw [if_pos h4] at h ⊢
        obtain ⟨i1, i2, i3⟩ := tTexts_at n (a + 4 + be4 s a) h4
        refine ⟨by simp only; omega, by simp [i2], fun _ => ?_⟩
        cases n with
        | zero => simp only [tTexts]; exact h3
        | succ n => exact i3 (by omega)
      · rw [if_neg h4] at h; exact absurd h h4
    · rw [if_neg h1] at h; exact absurd h h1

/-- Where the cursor stands at the first error. -/
def codec_place (s : ByteArray) : Nat → Int → Int
  | 0, a => a
  | n + 1, a => if (tText s a).2.2.2 = 0 then codec_place s n (tText s a).2.2.1 else a
theorem list_loop (s : ByteArray) : ∀ (d : Nat) (acc : List ByteArray) (n i a : Int) (k : Nat), 0 ≤ i → n - i = d → n ≤ 1000 → acc.length ≤ i.toNat → d + 6 ≤ k →
    codec_TakeList_1.l0 k acc n i s a = if (tTexts s d a).2.2 = 0 then some (acc ++ (tTexts s d a).1, s, (tTexts s d a).2.1, 0) else some ([], s, (codec_place s d a), (tTexts s d a).2.2)
  | 0, acc, n, i, a, k, h0, hd, hn, hacc, hk => by
    obtain ⟨k, rfl⟩ : ∃ m, k = m + 1 := ⟨k - 1, by omega⟩
    unfold codec_TakeList_1.l0
    rw [if_neg (by omega)]
    simp [tTexts, slices_Clip_string_string.f]
  | d + 1, acc, n, i, a, k, h0, hd, hn, hacc, hk => by
    obtain ⟨k, rfl⟩ : ∃ m, k = m + 1 := ⟨k - 1, by omega⟩
    unfold codec_TakeList_1.l0
    rw [if_pos (by omega), text_eq s a k (by omega)]
    simp only [Option.bind_some]
    by_cases h1 : (tText s a).2.2.2 = 0
    · obtain ⟨_, _, e⟩ := tText_ok h1
      have h2 : (tText s a).2.1 = s := by rw [e]
      rw [if_pos h1, if_pos (by omega), wrap64_id (by omega) (by omega), h2, list_loop s d _ n (i + 1) _ k (by omega) (by omega) hn (by simp; omega) (by omega)]
      by_cases h3 : (tTexts s d (tText s a).2.2.1).2.2 = 0
      · simp only [tTexts_yes h1 h3, if_pos h3]; simp
      · simp only [tTexts_no h1 h3, if_neg h3, codec_place, if_pos h1]
    · rw [if_neg h1]
      simp only [tTexts_not h1, codec_place, if_neg h1]

theorem list_eq (s : ByteArray) (a : Int) (k : Nat) (hk : 1010 ≤ k) : codec_TakeList.f k s a = some (tList s a) := by
  unfold codec_TakeList.f codec_many_string_35.f
  rw [num_eq s a k (by omega)]
  unfold tList
  by_cases h : (tNum s a).2.2.2 = 0
  · obtain ⟨hr, h4, hm, e⟩ := tNum_ok h
    have hb := be4_range s a
    rw [e]
    simp only [Option.bind_some, if_true]
    unfold codec_TakeList_1.f
    by_cases h5 : be4 s a > 1000
    · rw [if_pos h5, if_pos h5]; rfl
    · rw [if_neg h5, if_neg h5, list_loop s (be4 s a).toNat [] (be4 s a) 0 (a + 4) k (by omega) (by omega) (by omega) (by simp) (by omega)]
      by_cases h6 : (tTexts s (be4 s a).toNat (a + 4)).2.2 = 0
      · rw [if_pos h6, if_pos h6]; simp
      · rw [if_neg h6, if_neg h6]; simp [h6]
  · rw [tNum_no h]
    simp only [Option.bind_some]
    rw [if_neg h, if_neg h]
    rfl

def endOf (s : ByteArray) (a : Int) : Int := if rgt s a = true then (if a < (s.size : Int) then 13 else 0) else 1
theorem end_eq (s : ByteArray) (a : Int) : codec_End.f s a = some (endOf s a) := by
  unfold codec_End.f endOf
  rw [right_eq]
  simp only [Option.bind_some]
  repeat' split
  all_goals rfl
end Go.Proofs.Ytmddhiokioojlaa.A
