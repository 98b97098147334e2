/- Layer 12: find, both. -/
import Derived.Test.YthijmjglpcljcaaB12b
namespace Go.Proofs.Ythijmjglpcljcaa.Sy
open Go Go.RowKit
set_option linter.unusedVariables false
set_option linter.unusedSimpArgs false
set_option maxRecDepth 10000
set_option maxHeartbeats 4000000
/-- The place of the i-th bucket of a way. -/
def placeN (n : Nat) (home i : Nat) : Nat := (home + i) % n
/-- What find tells, from the i-th bucket of the way on, of so many ones. -/
def scanB (bs : List Bkt) (lab : ByteArray) (home : Nat) : Nat → Nat → Int → Int × Int
  | 0, _, room => (-1, room)
  | m + 1, i, room =>
    let k := placeN bs.length home i
    let b := bs.getD k .free
    if b.st = 1 then if b.lab = lab then ((k : Int), room) else scanB bs lab home m (i + 1) room
    else
      let room' := if room < 0 then (k : Int) else room
      if b.st = 0 then (-1, room') else scanB bs lab home m (i + 1) room'
def homeN (lab : ByteArray) (n : Nat) : Nat := (homeI lab n).toNat
def findB (bs : List Bkt) (lab : ByteArray) : Int × Int := scanB bs lab (homeN lab bs.length) bs.length 0 (-1)
abbrev pairI (p : Int × Int) : PV := .tup [.val (.int .i64 p.1), .val (.int .i64 p.2)]
theorem place_eq {lab : ByteArray} {n i : Nat} (hn : i < n) (hl : n < 4611686018427387904) :
    (IntKind.i64.wrap (homeI lab n + i)).tmod n = (placeN n (homeN lab n) i : Nat) := by
  have hH := homeI_range (s := lab) (n := n) (by omega)
  obtain ⟨h, e⟩ : ∃ h : Nat, homeI lab n = h := ⟨(homeI lab n).toNat, by omega⟩
  rw [w64 (by omega) (by omega), Int.tmod_eq_emod_of_nonneg (by omega), placeN, homeN, e]
  simp
theorem scanB_succ (bs : List Bkt) (lab : ByteArray) (home m i : Nat) (room : Int) {b : Bkt} (hb : bs.getD (placeN bs.length home i) .free = b) :
    scanB bs lab home (m + 1) i room = if b.st = 1 then if b.lab = lab then ((placeN bs.length home i : Int), room) else scanB bs lab home m (i + 1) room
      else if b.st = 0 then (-1, if room < 0 then (placeN bs.length home i : Int) else room) else scanB bs lab home m (i + 1) (if room < 0 then (placeN bs.length home i : Int) else room) := by
  subst hb; rfl
def reffind_inv (s : Sto) (lab : ByteArray) (m : Nat) (st : St) : Prop := ∃ i : Nat, ∃ room : Int, m = s.bs.length - i ∧ i ≤ s.bs.length ∧ -1 ≤ room ∧ findB s.bs lab = scanB s.bs lab (homeN lab s.bs.length) m i room ∧ st = ⟨54, [(8, .val (.int .i64 i)), (7, .val (.int .i64 room)), (6, .val (.int .i64 s.bs.length)), (2, .ref 64 3 0 0), (1, .val (.string lab))], [(64, ⟨31, 3, [[.rd 3 (rowsB s.bs), .val (.int .i64 s.many), .val (.int .i64 s.gone)]], .cells⟩)], 72⟩
theorem reffind_call (s : Sto) (lab : ByteArray) (hl : s.bs.length < 4611686018427387904) :
    CallOk Try.prog 36 [stoP s, .val (.string lab)] [] (pairI (findB s.bs lab)) [] := by
  refine .of_exec Try.func36 rfl (enters_36) rfl rfl (Nat.le_of_ble_eq_true rfl) (fun n _ => rfl) ?_
  simp
  refine WPg.loopW (reffind_inv s lab) ⟨s.bs.length, _, ?_, ⟨0, -1, by simp, by simp, by simp, rfl, rfl⟩⟩ ?_
  · exact Wk.rn [(64, 64)] rfl (by simp) (by simp) (by simp [RowsOk, RowOk])
  rintro m st ⟨i, room, h1, h2, h3, h4, rfl⟩
  by_cases hi : i < s.bs.length
  · have hi' : (i : Int) < s.bs.length := by omega
    have hne : s.bs ≠ [] := by rintro e; rw [e] at hi; simp at hi
    have hk := place_eq (lab := lab) hi hl
    have hkl : placeN s.bs.length (homeN lab s.bs.length) i < s.bs.length := Nat.mod_lt _ (by omega)
    have hw : IntKind.i64.wrap ((i : Int) + 1) = ((i + 1 : Nat) : Int) := by rw [w64 (by omega) (by omega)]; omega
    obtain ⟨b, hb⟩ : ∃ b, s.bs[placeN s.bs.length (homeN lab s.bs.length) i] = b := ⟨_, rfl⟩
    have hd : s.bs.getD (placeN s.bs.length (homeN lab s.bs.length) i) .free = b := by rw [List.getD_eq_getElem?_getD, List.getElem?_eq_getElem hkl, hb]; rfl
    obtain ⟨k, e⟩ : ∃ k : Nat, m = k + 1 := ⟨m - 1, by omega⟩
    rw [e, scanB_succ _ _ _ _ _ _ hd] at h4
    simp [hi, hi']
    refine .plain (refhome_call lab ⟨by omega, by omega⟩) (by simp) (by simp) ?_
    by_cases c1 : b.st = 1
    · by_cases c2 : b.lab = lab
      · simp [hne, hk, hkl, rowB, hb, c1, c2]
        exact .plain (by simp) (by simp [h4, c1, c2])
      · simp [hne, hk, hkl, rowB, hb, c1, c2]
        refine ⟨k, by omega, _, ?_, ⟨i + 1, room, by omega, by omega, h3, by simpa [c1, c2] using h4, rfl⟩⟩
        rw [hw]
        exact Wk.rn [(64, 64)] rfl (by simp) (by simp) (by simp [RowsOk, RowOk])
    · by_cases c3 : room < 0
      · by_cases c4 : b.st = 0
        · simp [hne, hk, hkl, rowB, hb, c3, c4]
          exact .plain (by simp) (by simp [h4, c3, c4])
        · simp [hne, hk, hkl, rowB, hb, c1, c3, c4]
          refine ⟨k, by omega, _, ?_, ⟨i + 1, (placeN s.bs.length (homeN lab s.bs.length) i : Nat), by omega, by omega, by omega, by simpa [c1, c3, c4] using h4, rfl⟩⟩
          rw [hw]
          exact Wk.rn [(64, 64)] rfl (by simp) (by simp) (by simp [RowsOk, RowOk])
      · by_cases c4 : b.st = 0
        · simp [hne, hk, hkl, rowB, hb, c3, c4]
          exact .plain (by simp) (by simp [h4, c3, c4])
        · simp [hne, hk, hkl, rowB, hb, c1, c3, c4]
          refine ⟨k, by omega, _, ?_, ⟨i + 1, room, by omega, by omega, by omega, by simpa [c1, c3, c4] using h4, rfl⟩⟩
          rw [hw]
          exact Wk.rn [(64, 64)] rfl (by simp) (by simp) (by simp [RowsOk, RowOk])
  · obtain rfl : i = s.bs.length := by omega
    obtain rfl : m = 0 := by omega
    simp
    exact .plain (by simp) (by simp [h4, scanB])
end Go.Proofs.Ythijmjglpcljcaa.Sy
