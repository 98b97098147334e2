/- Layer 16: Split over its words. -/
import Derived.Test.YtipolblhiljoiaaC16a
namespace Go.Proofs.Ytipolblhiljoiaa.Sy
open Go Go.RowKit
set_option linter.unusedVariables false
set_option linter.unusedSimpArgs false
set_option maxRecDepth 10000
set_option maxHeartbeats 4000000
theorem bytesW_nul (s : ByteArray) : bytesW (s ++ (⟨#[0]⟩ : ByteArray)) = bytesW s ++ [0] := by rw [bytesW_append]; rfl
abbrev u8O (xs : List Int) : Ob := ⟨5, 1, xs.map u8row, .cells⟩
def split_inv (s x : ByteArray) (tm : Array Value) (fid : FuncId) (dfs : Nat) (A B : Code) (m : Nat) (st : St) : Prop := ∃ (i : Nat) (p junk : List Int) (out : List ByteArray), m = x.size - i ∧ i ≤ x.size ∧ wscan ((bytesW x).take i) = (p, out) ∧ p.length ≤ i ∧ out.length ≤ i ∧
  st = ⟨40, [(11, .val (.int .i64 i)), (10, .val (.int .i64 x.size)), (9, .rd 1 (brow x)), (3, .sl 160 1 0 p.length), (0, .yld 152)],
    [(152, ⟨0, 0, [], .loop ⟨17, [(10, PV.clo 76 [PV.ref 120 1 0 0]), (4, .ref 104 1 0 0)], tm, fid, #[11], A, B, dfs, .ready, none⟩⟩), (120, ⟨9, 1, [[.val (.string s)]], .cells⟩), (104, ⟨35, 1, [[.sl 168 1 0 out.length]], .cells⟩), (160, u8O (p ++ junk)), (168, strO out)], 176⟩
@[simp] theorem RowsOk_app (n : Nat) (a b : List (List PV)) : RowsOk n (a ++ b) ↔ RowsOk n a ∧ RowsOk n b := by
  unfold RowsOk
  exact ⟨fun h => ⟨fun r hr => h r (List.mem_append_left _ hr), fun r hr => h r (List.mem_append_right _ hr)⟩, fun h r hr => (List.mem_append.1 hr).elim (h.1 r) (h.2 r)⟩
@[simp] theorem RowsOk_u8 (xs : List Int) : RowsOk 1 (xs.map u8row) ↔ True := ⟨fun _ => trivial, fun _ => u8rows_ok xs⟩
@[simp] theorem rn_u8row (π : Nat → Option Nat) : (List.map (rn0 π) ∘ u8row) = u8row := by funext n; rfl
@[simp] theorem low_u8row (obs : List (Nat × Ob)) (B : List Nat) : (List.map (low0 obs B) ∘ u8row) = u8row := by funext n; rfl
theorem numsOf_pre (xs : List Int) (n : Nat) : numsOf ((xs.map u8row).take n) = some (xs.take n) := by rw [← List.map_take, numsOf_map]
/-- Split over whatever is made of its list. -/
theorem split_any {s : ByteArray} {r : PV} {post : List (Nat × Ob)} (h : ¬ 2000 < s.size) (hQ : ∀ (p junk : List Int), retR Try.prog [ResultVar.tmp 2, ResultVar.tmp 3] r [] post .ret
    ⟨17, [(3, .val (.int .i64 0)), (2, .sl 168 1 0 (wordsOf s).length), (16, .sl 168 1 0 (wordsOf s).length), (10, .clo 76 [.ref 120 1 0 0]), (4, .ref 104 1 0 0)],
      [(120, ⟨9, 1, [[.val (.string s)]], .cells⟩), (104, ⟨35, 1, [[.sl 168 1 0 (wordsOf s).length]], .cells⟩), (160, u8O (p ++ junk)), (168, strO (wordsOf s))], 208⟩) :
    CallOk Try.prog 67 [.val (.string s)] [] r post := by
  refine .of_exec Try.func67 rfl (enters_67) rfl rfl (Nat.le_of_ble_eq_true rfl) (fun n _ => rfl) ?_
  have h' : ¬ (2000 : Int) < s.size := by omega
  simp [h, h']
  refine callK.walk (n := 4) (res := [.tmp 2]) Try.func72 rfl (enters_72) rfl rfl (by simp) ?_
  simp
  refine WPg.rangeV (by simp) (by simp; rfl) (n := 40) Try.func76 rfl (enters_76) rfl (by simp) rfl fun tm fid dfs A B hA hB => ?_
  simp
  have hz : (⟨#[0]⟩ : ByteArray).size = 1 := rfl
  obtain ⟨x, hx⟩ : ∃ x, s ++ (⟨#[0]⟩ : ByteArray) = x := ⟨_, rfl⟩
  have hxs : x.size = s.size + 1 := by rw [← hx, ByteArray.size_append, hz]
  have hxb : bytesW x = bytesW s ++ [0] := by rw [← hx, bytesW_nul]
  have hxi : (s.size : Int) + ((1 : Nat) : Int) = x.size := by omega
  rw [hz, hx, hxi]
  refine ⟨by omega, fun _ => ?_⟩
  refine WPg.loopW (split_inv s x tm fid dfs A B) ⟨x.size, _, ?_, ⟨0, [], [], [], by simp, by simp, by simp [wscan], by simp, by simp, rfl⟩⟩ ?_
  · refine (Wk.nil [3] [] 5 1).trans ((Wk.nil [] [104] 9 1).trans ?_)
    exact Wk.rn [(208, 160), (216, 168)] rfl (by simp) (by simp) (by simp [strs_nil, RowsOk, RowOk])
  rintro m st ⟨i, p, junk, out, h1, h2, h3, h4, h5, rfl⟩
  by_cases hi : i < x.size
  · have hi' : (i : Int) < x.size := by omega
    have hwr : IntKind.i64.wrap ((i : Int) + 1) = ((i + 1 : Nat) : Int) := by rw [w64 (by omega) (by omega)]; omega
    have hb := btvW hi
    have hr := btv_range x i
    obtain ⟨c, hc⟩ : ∃ c, btv x i = c := ⟨_, rfl⟩
    rw [hc] at hb hr
    have hlb : i < (bytesW x).length := by rw [bytesI_length]; exact hi
    have hs := Sign_call (b := c) ⟨hr.1, by omega⟩
    have hstep : wscan ((bytesW x).take (i + 1)) = wstep (p, out) c := by rw [wtake_one hlb, wscan_snoc, h3, hb]
    rw [wstep_eq] at hstep
    simp [hi, hi', hc]
    refine .plain hs (by simp) (by simp) ?_
    by_cases c0 : signOf c = 0
    · rw [if_pos c0] at hstep
      by_cases c2 : 2 ≤ p.length
      · have c2' : (2 : Int) ≤ p.length := by omega
        obtain ⟨n, hn, hnp, hnt⟩ : ∃ n : Nat, (if 20 < (p.length : Int) then 20 else (p.length : Int)) = n ∧ n ≤ p.length ∧ p.take n = p.take 20 := by
          by_cases e : 20 < (p.length : Int)
          · exact ⟨20, by rw [if_pos e]; rfl, by omega, rfl⟩
          · exact ⟨p.length, by rw [if_neg e], by omega, by rw [List.take_length, List.take_of_length_le (by omega)]⟩
        have hnp' : (n : Int) ≤ p.length := by omega
        have hnq : n ≤ p.length + junk.length := by omega
        have hnum : numsOf (List.take n (List.map u8row p ++ List.map u8row junk)) = some (p.take 20) := by
          rw [← List.map_append, numsOf_pre, List.take_append_of_le_length hnp, hnt]
        have hf : flush p = [strOfNums (p.take 20)] := by unfold flush; rw [if_pos c2]
        rw [hf] at hstep
        simp [c0, c2, c2', hn, hnp', hnq, hnum]
        refine yieldK.walk (by simp; rfl) rfl rfl (by simp) (by simp) ?_
        have m1 : 1 ≤ maxLen := by decide
        have m2 : out.length ≤ 140737488355327 := by omega
        have m3 : (out.length + 1) * 16 ≤ 140737488355328 := by omega
        simp [hA, hB, m1, m2, m3]
        refine roundK.mk (by simp; rfl) ?_
        simp
        refine ⟨x.size - (i + 1), by omega, _, ?_, ⟨i + 1, [], p ++ junk, out ++ [strOfNums (p.take 20)], rfl, by omega, hstep, by simp, by simp; omega, rfl⟩⟩
        rw [hwr]
        exact Wk.rn [(160, 160), (368, 168)] rfl (by simp) (by simp) (by simp)
      · have c2' : ¬ (2 : Int) ≤ p.length := by omega
        have hf : flush p = [] := by unfold flush; rw [if_neg c2]
        rw [hf, List.append_nil] at hstep
        simp [c0, c2, c2']
        refine ⟨x.size - (i + 1), by omega, _, ?_, ⟨i + 1, [], p ++ junk, out, rfl, by omega, hstep, by simp, by omega, rfl⟩⟩
        rw [hwr]
        exact Wk.rn [(160, 160), (168, 168)] rfl (by simp) (by simp) (by simp)
    · rw [if_neg c0] at hstep
      have m1 : 1 ≤ maxLen := by decide
      have m2 : p.length ≤ 140737488355327 := by omega
      simp [c0, m1, m2]
      refine ⟨x.size - (i + 1), by omega, _, ?_, ⟨i + 1, p ++ [signOf c], [], out, rfl, by omega, hstep, by simp; omega, by omega, rfl⟩⟩
      rw [hwr]
      exact Wk.rn [(272, 160), (168, 168)] rfl (by simp) (by simp) (by simp [u8row])
  · obtain rfl : i = x.size := by omega
    simp
    have hf : wordsOf s = out := by
      unfold wordsOf
      rw [← hxb, ← List.take_of_length_le (l := bytesW x) (i := x.size) (by rw [bytesI_length]; exact Nat.le_refl _), h3]
    refine rangeQ.mk (by simp; rfl) rfl rfl (by simp) ?_
    simp
    have := hQ p junk
    rw [hf] at this
    exact this
theorem SplitO_call {s : ByteArray} (h : ¬ 2000 < s.size) : CallOk Try.prog 67 [.val (.string s)] [] (.tup [.sl 0 1 0 (wordsOf s).length, .val (.int .i64 0)]) [(0, strO (wordsOf s))] :=
  split_any h fun p junk => .own [(168, 0)] (by simp) (by simp) (by simp) (by simp) (by simp)
theorem Split_call {s : ByteArray} : CallOk Try.prog 67 [.val (.string s)] [] (.tup [.rd 1 (strs (if 2000 < s.size then [] else wordsOf s)), .val (.int .i64 (if 2000 < s.size then 2 else 0))]) [] := by
  by_cases h : 2000 < s.size
  · have h' : (2000 : Int) < s.size := by omega
    refine .of_exec Try.func67 rfl (enters_67) rfl rfl (Nat.le_of_ble_eq_true rfl) (fun n _ => rfl) ?_
    simp [h, h']
    exact .wk _ (Wk.nilRd 1 [(2, .rd 1 []), (3, .val (.int .i64 2))] (by simp)) (by simp) (by simp [strs_nil])
  · refine split_any h fun p junk => ?_
    have hfz : Wk 64 (⟨17, [(2, .sl 64 1 0 (wordsOf s).length), (3, .val (.int .i64 0))], [(64, strO (wordsOf s))], 72⟩ : St) ⟨17, [(2, .rd 1 (strs (wordsOf s))), (3, .val (.int .i64 0))], [], 72⟩ := Wk.frz [64] rfl rfl (by simp) (by simp) (by simp)
    refine .wk ⟨17, [(2, .rd 1 (strs (wordsOf s))), (3, .val (.int .i64 0))], [], 72⟩ (Wk.trans ?_ hfz) (by simp) (by simp [h])
    exact Wk.rn [(168, 64)] rfl (by simp) (by simp) (by simp)
end Go.Proofs.Ytipolblhiljoiaa.Sy
