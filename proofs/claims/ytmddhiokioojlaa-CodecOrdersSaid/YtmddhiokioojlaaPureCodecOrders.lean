/- CodecOrders, in plain words: numbers' bytes are in the order of numbers. -/
import Derived.Test.YtmddhiokioojlaaCodecHelp
import Derived.Test.YtmddhiokioojlaaAx14
import Derived.OpenShut
namespace Go.Proofs.Ytmddhiokioojlaa.Pure
open Go.RowKit Go.Proofs.Ytmddhiokioojlaa.A Go.Proofs.YtmddhiokioojlaaW.PrintWords Go.Proofs.YtmddhiokioojlaaW.PrintLast Go.Proofs.YtmddhiokioojlaaW.PrintMore
set_option linter.unusedVariables false

theorem numB_list (n : Int) : (numB n).toList = [UInt8.ofNat ((n / 16777216) % 256).toNat, UInt8.ofNat ((n / 65536) % 256).toNat, UInt8.ofNat ((n / 256) % 256).toNat, UInt8.ofNat (n % 256).toNat] := by
  rw [toList_data]; simp [numB, strOfNums]
theorem u8_lt (a b : Int) (h0 : 0 ≤ a) (h1 : a < 256) (h2 : 0 ≤ b) (h3 : b < 256) : UInt8.ofNat a.toNat < UInt8.ofNat b.toNat ↔ a < b := by
  rw [UInt8.lt_iff_toNat_lt]; simp; omega
theorem u8_eq (a b : Int) (h0 : 0 ≤ a) (h1 : a < 256) (h2 : 0 ≤ b) (h3 : b < 256) : UInt8.ofNat a.toNat = UInt8.ofNat b.toNat ↔ a = b := by
  rw [← UInt8.toNat_inj]; simp; omega
theorem numB_less (a b : Int) (a0 : 0 ≤ a) (a1 : a < 2147483648) (b0 : 0 ≤ b) (b1 : b < 2147483648) : Op.bytesLess (numB a).toList (numB b).toList = decide (a < b) := by
  rw [numB_list, numB_list, Bool.eq_iff_iff]
  simp only [Op.bytesLess, Bool.or_eq_true, Bool.and_eq_true, decide_eq_true_eq, beq_iff_eq]
  rw [u8_lt _ _ (by omega) (by omega) (by omega) (by omega), u8_lt _ _ (by omega) (by omega) (by omega) (by omega), u8_lt _ _ (by omega) (by omega) (by omega) (by omega), u8_lt _ _ (by omega) (by omega) (by omega) (by omega),
    u8_eq _ _ (by omega) (by omega) (by omega) (by omega), u8_eq _ _ (by omega) (by omega) (by omega) (by omega), u8_eq _ _ (by omega) (by omega) (by omega) (by omega), u8_eq _ _ (by omega) (by omega) (by omega) (by omega)]
  simp only [Bool.false_eq_true, and_false, or_false]
  rw [show a / 65536 = a / 256 / 256 by omega, show b / 65536 = b / 256 / 256 by omega, show a / 16777216 = a / 256 / 256 / 256 by omega, show b / 16777216 = b / 256 / 256 / 256 by omega]
  omega
theorem numB_same (a b : Int) (a0 : 0 ≤ a) (a1 : a < 2147483648) (b0 : 0 ≤ b) (b1 : b < 2147483648) : ((numB a).toList == (numB b).toList) = (a == b) := by
  rw [Bool.eq_iff_iff, beq_iff_eq, beq_iff_eq]
  constructor
  · intro h
    have h' := toList_inj h
    rw [← be4_numB a a0 (by omega), h', be4_numB b b0 (by omega)]
  · intro h; rw [h]

theorem orders_loop (a b : Int) (u : ByteArray) (l : List ByteArray) (a0 : 0 ≤ a) (a1 : a < 2147483648) (b0 : 0 ≤ b) (b1 : b < 2147483648) (hl : l.length ≤ 12) (hs : ∀ x ∈ l, x.size ≤ 50) (hu : u.size = 4 + (cat l).size) :
    ∀ (d : Nat) (i m : Int) (k : Nat), 0 ≤ i → (l.length : Int) - i = d → 0 ≤ m → m + (cat (l.drop i.toNat)).size = u.size → d + 1 ≤ k → columbariumlaw10_CodecOrders.l0 k true a b (numB a) 0 (numB b) 0 l u 0 m i = some true
  | 0, i, m, k, h0, hd, hm0, hm, hk => by
    obtain ⟨k, rfl⟩ : ∃ m, k = m + 1 := ⟨k - 1, by omega⟩
    rw [List.drop_eq_nil_of_le (by omega)] at hm
    have hz : (cat []).size = 0 := rfl
    unfold columbariumlaw10_CodecOrders.l0
    rw [if_neg (by omega), numB_less a b a0 a1 b0 b1, numB_same a b a0 a1 b0 b1]
    simp only [if_true, beq_self_eq_true, Option.some.injEq, beq_iff_eq]
    omega
  | d + 1, i, m, k, h0, hd, hm0, hm, hk => by
    obtain ⟨k, rfl⟩ : ∃ m, k = m + 1 := ⟨k - 1, by omega⟩
    have hi : i.toNat < l.length := by omega
    have he : rdOf ByteArray.empty l i = l[i.toNat] := by
      unfold rdOf; rw [List.getD_eq_getElem?_getD, List.getElem?_eq_getElem hi]; rfl
    have hd1 : l.drop i.toNat = l[i.toNat] :: l.drop (i + 1).toNat := by
      rw [show (i + 1).toNat = i.toNat + 1 by omega]; exact List.drop_eq_getElem_cons hi
    rw [hd1, cat_size_cons] at hm
    have hc := cat_few hs
    unfold columbariumlaw10_CodecOrders.l0
    rw [if_pos (by omega), if_pos h0, he, wrap64_id (n := m + 4) (by omega) (by omega), wrap64_id (n := m + 4 + _) (by omega) (by omega), wrap64_id (n := i + 1) (by omega) (by omega)]
    exact orders_loop a b u l a0 a1 b0 b1 hl hs hu d (i + 1) _ k (by omega) (by omega) (by omega) (by omega) (by omega)

theorem CodecOrders : ∀ (a0 : Int) (a1 : Int) (l2 : List ByteArray), (Lit.int .i64 a0).wf = true → (Lit.int .i64 a1).wf = true → (l2.length ≤ maxLen ∧ ∀ a ∈ l2, a.size ≤ maxLen) → ∃ k, columbariumlaw10_CodecOrders.f k a0 a1 l2 = some true := by
  intro a0 a1 l2 w0 w1 w2
  refine ⟨1100, ?_⟩
  obtain ⟨n, hn, n0, n1⟩ := pick_ok a0 2147483648 (bounds_i64 w0) (by omega)
  obtain ⟨m, hm, m0, m1⟩ := pick_ok a1 2147483648 (bounds_i64 w1) (by omega)
  obtain ⟨few, hf, f1, f2⟩ := few_ok l2 1100 (by omega)
  have hc := cat_few f2
  unfold columbariumlaw10_CodecOrders.f codec_List.f
  rw [awake_ok 1100 (by omega), hn, hm, hf]
  simp only [Option.bind_some]
  rw [number_some n n0 (by omega), number_some m m0 (by omega), listOf_cat (l := few) (by omega) (by omega)]
  simp only [Option.bind_some]
  have z2 : (numB few.length ++ cat few).size = 4 + (cat few).size := by rw [ByteArray.size_append, numB_size]
  exact orders_loop n m _ few n0 n1 m0 m1 f1 f2 z2 few.length 0 4 1100 (by omega) (by omega) (by omega) (by rw [z2]; rfl) (by omega)
end Go.Proofs.Ytmddhiokioojlaa.Pure
