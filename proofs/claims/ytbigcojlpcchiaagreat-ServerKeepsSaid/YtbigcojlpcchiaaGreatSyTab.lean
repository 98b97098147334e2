/- Sy: facts about the types and the functions of the program, for simp. -/
import Derived.Test.YtbigcojlpcchiaaGreatSyTwo
namespace Go.Proofs.YtbigcojlpcchiaaGreat.Sy
open Go Go.RowKit
@[simp] theorem tsize_1 : tsize Tryz.prog 1 = some 1 := by kernel_rfl
@[simp] theorem tbytes_1 : tbytes Tryz.prog 1 = some 8 := by kernel_rfl
@[simp] theorem tzeroV_1 : tzeroV Tryz.prog 1 = some (.val .nilFunc) := by kernel_rfl
@[simp] theorem tzero_1 : tzero Tryz.prog 1 = some [.val .nilFunc] := by kernel_rfl
attribute [simp] Tryz.underlying1
@[simp] theorem tsize_2 : tsize Tryz.prog 2 = some 1 := by kernel_rfl
@[simp] theorem tbytes_2 : tbytes Tryz.prog 2 = some 8 := by kernel_rfl
@[simp] theorem tzeroV_2 : tzeroV Tryz.prog 2 = some (.val (.int .i64 0)) := by kernel_rfl
@[simp] theorem tzero_2 : tzero Tryz.prog 2 = some [.val (.int .i64 0)] := by kernel_rfl
attribute [simp] Tryz.underlying2
@[simp] theorem tsize_3 : tsize Tryz.prog 3 = some 1 := by kernel_rfl
@[simp] theorem tbytes_3 : tbytes Tryz.prog 3 = some 8 := by kernel_rfl
@[simp] theorem tzeroV_3 : tzeroV Tryz.prog 3 = some (.val (.int .i64 0)) := by kernel_rfl
@[simp] theorem tzero_3 : tzero Tryz.prog 3 = some [.val (.int .i64 0)] := by kernel_rfl
attribute [simp] Tryz.underlying3
@[simp] theorem tsize_4 : tsize Tryz.prog 4 = some 1 := by kernel_rfl
@[simp] theorem tbytes_4 : tbytes Tryz.prog 4 = some 1 := by kernel_rfl
@[simp] theorem tzeroV_4 : tzeroV Tryz.prog 4 = some (.val (.bool false)) := by kernel_rfl
@[simp] theorem tzero_4 : tzero Tryz.prog 4 = some [.val (.bool false)] := by kernel_rfl
attribute [simp] Tryz.underlying4
@[simp] theorem tsize_5 : tsize Tryz.prog 5 = some 1 := by kernel_rfl
@[simp] theorem tbytes_5 : tbytes Tryz.prog 5 = some 1 := by kernel_rfl
@[simp] theorem tzeroV_5 : tzeroV Tryz.prog 5 = some (.val (.int .u8 0)) := by kernel_rfl
@[simp] theorem tzero_5 : tzero Tryz.prog 5 = some [.val (.int .u8 0)] := by kernel_rfl
attribute [simp] Tryz.underlying5
@[simp] theorem tsize_6 : tsize Tryz.prog 6 = some 1 := by kernel_rfl
@[simp] theorem tbytes_6 : tbytes Tryz.prog 6 = some 1 := by kernel_rfl
@[simp] theorem tzeroV_6 : tzeroV Tryz.prog 6 = some (.val (.int .u8 0)) := by kernel_rfl
@[simp] theorem tzero_6 : tzero Tryz.prog 6 = some [.val (.int .u8 0)] := by kernel_rfl
attribute [simp] Tryz.underlying6
@[simp] theorem tsize_7 : tsize Tryz.prog 7 = some 4 := by kernel_rfl
@[simp] theorem tbytes_7 : tbytes Tryz.prog 7 = some 24 := by kernel_rfl
@[simp] theorem tzeroV_7 : tzeroV Tryz.prog 7 = some (.agg [.val (.int .i64 0), .val (.int .i64 0), .val (.bool false), .val (.int .u8 0)]) := by kernel_rfl
@[simp] theorem tzero_7 : tzero Tryz.prog 7 = some [.val (.int .i64 0), .val (.int .i64 0), .val (.bool false), .val (.int .u8 0)] := by kernel_rfl
attribute [simp] Tryz.underlying7
@[simp] theorem tsize_8 : tsize Tryz.prog 8 = some 4 := by kernel_rfl
@[simp] theorem tbytes_8 : tbytes Tryz.prog 8 = some 24 := by kernel_rfl
@[simp] theorem tzeroV_8 : tzeroV Tryz.prog 8 = some (.agg [.val (.int .i64 0), .val (.int .i64 0), .val (.bool false), .val (.int .u8 0)]) := by kernel_rfl
@[simp] theorem tzero_8 : tzero Tryz.prog 8 = some [.val (.int .i64 0), .val (.int .i64 0), .val (.bool false), .val (.int .u8 0)] := by kernel_rfl
attribute [simp] Tryz.underlying8
@[simp] theorem tsize_9 : tsize Tryz.prog 9 = some 1 := by kernel_rfl
@[simp] theorem tbytes_9 : tbytes Tryz.prog 9 = some 16 := by kernel_rfl
@[simp] theorem tzeroV_9 : tzeroV Tryz.prog 9 = some (.val (.string ⟨#[]⟩)) := by kernel_rfl
@[simp] theorem tzero_9 : tzero Tryz.prog 9 = some [.val (.string ⟨#[]⟩)] := by kernel_rfl
attribute [simp] Tryz.underlying9
@[simp] theorem tsize_10 : tsize Tryz.prog 10 = some 1 := by kernel_rfl
@[simp] theorem tbytes_10 : tbytes Tryz.prog 10 = some 16 := by kernel_rfl
@[simp] theorem tzeroV_10 : tzeroV Tryz.prog 10 = some (.val (.string ⟨#[]⟩)) := by kernel_rfl
@[simp] theorem tzero_10 : tzero Tryz.prog 10 = some [.val (.string ⟨#[]⟩)] := by kernel_rfl
attribute [simp] Tryz.underlying10
@[simp] theorem tsize_11 : tsize Tryz.prog 11 = some 1 := by kernel_rfl
@[simp] theorem tbytes_11 : tbytes Tryz.prog 11 = some 16 := by kernel_rfl
@[simp] theorem tzeroV_11 : tzeroV Tryz.prog 11 = some (.val (.string ⟨#[]⟩)) := by kernel_rfl
@[simp] theorem tzero_11 : tzero Tryz.prog 11 = some [.val (.string ⟨#[]⟩)] := by kernel_rfl
attribute [simp] Tryz.underlying11
@[simp] theorem tsize_12 : tsize Tryz.prog 12 = some 1 := by kernel_rfl
@[simp] theorem tbytes_12 : tbytes Tryz.prog 12 = some 8 := by kernel_rfl
@[simp] theorem tzeroV_12 : tzeroV Tryz.prog 12 = some (.val (.int .u64 0)) := by kernel_rfl
@[simp] theorem tzero_12 : tzero Tryz.prog 12 = some [.val (.int .u64 0)] := by kernel_rfl
attribute [simp] Tryz.underlying12
@[simp] theorem tsize_13 : tsize Tryz.prog 13 = some 2 := by kernel_rfl
@[simp] theorem tbytes_13 : tbytes Tryz.prog 13 = some 24 := by kernel_rfl
@[simp] theorem tzeroV_13 : tzeroV Tryz.prog 13 = some (.agg [.val (.string ⟨#[]⟩), .val (.int .u64 0)]) := by kernel_rfl
@[simp] theorem tzero_13 : tzero Tryz.prog 13 = some [.val (.string ⟨#[]⟩), .val (.int .u64 0)] := by kernel_rfl
attribute [simp] Tryz.underlying13
@[simp] theorem tsize_14 : tsize Tryz.prog 14 = some 2 := by kernel_rfl
@[simp] theorem tbytes_14 : tbytes Tryz.prog 14 = some 24 := by kernel_rfl
@[simp] theorem tzeroV_14 : tzeroV Tryz.prog 14 = some (.agg [.val (.string ⟨#[]⟩), .val (.int .u64 0)]) := by kernel_rfl
@[simp] theorem tzero_14 : tzero Tryz.prog 14 = some [.val (.string ⟨#[]⟩), .val (.int .u64 0)] := by kernel_rfl
attribute [simp] Tryz.underlying14
@[simp] theorem tsize_15 : tsize Tryz.prog 15 = some 1 := by kernel_rfl
@[simp] theorem tbytes_15 : tbytes Tryz.prog 15 = some 8 := by kernel_rfl
@[simp] theorem tzeroV_15 : tzeroV Tryz.prog 15 = some (.val (.pointer none)) := by kernel_rfl
@[simp] theorem tzero_15 : tzero Tryz.prog 15 = some [.val (.pointer none)] := by kernel_rfl
attribute [simp] Tryz.underlying15
@[simp] theorem tsize_16 : tsize Tryz.prog 16 = some 1 := by kernel_rfl
@[simp] theorem tbytes_16 : tbytes Tryz.prog 16 = some 8 := by kernel_rfl
@[simp] theorem tzeroV_16 : tzeroV Tryz.prog 16 = some (.val (.pointer none)) := by kernel_rfl
@[simp] theorem tzero_16 : tzero Tryz.prog 16 = some [.val (.pointer none)] := by kernel_rfl
attribute [simp] Tryz.underlying16
@[simp] theorem tsize_17 : tsize Tryz.prog 17 = some 1 := by kernel_rfl
@[simp] theorem tbytes_17 : tbytes Tryz.prog 17 = some 8 := by kernel_rfl
@[simp] theorem tzeroV_17 : tzeroV Tryz.prog 17 = some (.val (.pointer none)) := by kernel_rfl
@[simp] theorem tzero_17 : tzero Tryz.prog 17 = some [.val (.pointer none)] := by kernel_rfl
attribute [simp] Tryz.underlying17
@[simp] theorem tsize_18 : tsize Tryz.prog 18 = some 1 := by kernel_rfl
@[simp] theorem tbytes_18 : tbytes Tryz.prog 18 = some 8 := by kernel_rfl
@[simp] theorem tzeroV_18 : tzeroV Tryz.prog 18 = some (.agg [.val (.pointer none)]) := by kernel_rfl
@[simp] theorem tzero_18 : tzero Tryz.prog 18 = some [.val (.pointer none)] := by kernel_rfl
attribute [simp] Tryz.underlying18
@[simp] theorem tsize_19 : tsize Tryz.prog 19 = some 1 := by kernel_rfl
@[simp] theorem tbytes_19 : tbytes Tryz.prog 19 = some 8 := by kernel_rfl
@[simp] theorem tzeroV_19 : tzeroV Tryz.prog 19 = some (.agg [.val (.pointer none)]) := by kernel_rfl
@[simp] theorem tzero_19 : tzero Tryz.prog 19 = some [.val (.pointer none)] := by kernel_rfl
attribute [simp] Tryz.underlying19
@[simp] theorem tsize_20 : tsize Tryz.prog 20 = some 1 := by kernel_rfl
@[simp] theorem tbytes_20 : tbytes Tryz.prog 20 = some 16 := by kernel_rfl
@[simp] theorem tzeroV_20 : tzeroV Tryz.prog 20 = some (.val .nilIface) := by kernel_rfl
@[simp] theorem tzero_20 : tzero Tryz.prog 20 = some [.val .nilIface] := by kernel_rfl
attribute [simp] Tryz.underlying20
@[simp] theorem tsize_21 : tsize Tryz.prog 21 = some 1 := by kernel_rfl
@[simp] theorem tbytes_21 : tbytes Tryz.prog 21 = some 4 := by kernel_rfl
@[simp] theorem tzeroV_21 : tzeroV Tryz.prog 21 = some (.val (.int .i32 0)) := by kernel_rfl
@[simp] theorem tzero_21 : tzero Tryz.prog 21 = some [.val (.int .i32 0)] := by kernel_rfl
attribute [simp] Tryz.underlying21
@[simp] theorem tsize_22 : tsize Tryz.prog 22 = some 1 := by kernel_rfl
@[simp] theorem tbytes_22 : tbytes Tryz.prog 22 = some 24 := by kernel_rfl
@[simp] theorem tzeroV_22 : tzeroV Tryz.prog 22 = some (.val (.slice none 0 0)) := by kernel_rfl
@[simp] theorem tzero_22 : tzero Tryz.prog 22 = some [.val (.slice none 0 0)] := by kernel_rfl
attribute [simp] Tryz.underlying22
@[simp] theorem tsize_23 : tsize Tryz.prog 23 = some 1 := by kernel_rfl
@[simp] theorem tbytes_23 : tbytes Tryz.prog 23 = some 24 := by kernel_rfl
@[simp] theorem tzeroV_23 : tzeroV Tryz.prog 23 = some (.val (.slice none 0 0)) := by kernel_rfl
@[simp] theorem tzero_23 : tzero Tryz.prog 23 = some [.val (.slice none 0 0)] := by kernel_rfl
attribute [simp] Tryz.underlying23
@[simp] theorem tsize_24 : tsize Tryz.prog 24 = some 1 := by kernel_rfl
@[simp] theorem tbytes_24 : tbytes Tryz.prog 24 = some 24 := by kernel_rfl
@[simp] theorem tzeroV_24 : tzeroV Tryz.prog 24 = some (.val (.slice none 0 0)) := by kernel_rfl
@[simp] theorem tzero_24 : tzero Tryz.prog 24 = some [.val (.slice none 0 0)] := by kernel_rfl
attribute [simp] Tryz.underlying24
@[simp] theorem tsize_25 : tsize Tryz.prog 25 = some 3 := by kernel_rfl
@[simp] theorem tbytes_25 : tbytes Tryz.prog 25 = some 56 := by kernel_rfl
@[simp] theorem tzeroV_25 : tzeroV Tryz.prog 25 = some (.agg [.val (.int .i64 0), .val (.slice none 0 0), .val (.slice none 0 0)]) := by kernel_rfl
@[simp] theorem tzero_25 : tzero Tryz.prog 25 = some [.val (.int .i64 0), .val (.slice none 0 0), .val (.slice none 0 0)] := by kernel_rfl
attribute [simp] Tryz.underlying25
@[simp] theorem tsize_26 : tsize Tryz.prog 26 = some 3 := by kernel_rfl
@[simp] theorem tbytes_26 : tbytes Tryz.prog 26 = some 56 := by kernel_rfl
@[simp] theorem tzeroV_26 : tzeroV Tryz.prog 26 = some (.agg [.val (.int .i64 0), .val (.slice none 0 0), .val (.slice none 0 0)]) := by kernel_rfl
@[simp] theorem tzero_26 : tzero Tryz.prog 26 = some [.val (.int .i64 0), .val (.slice none 0 0), .val (.slice none 0 0)] := by kernel_rfl
attribute [simp] Tryz.underlying26
@[simp] theorem held_26 : Tryz.prog.stoodInHeld 26 = false := by kernel_rfl
@[simp] theorem guard_26 : Tryz.prog.eqGuardType Tryz.prog.depth 26 = false := by kernel_rfl
@[simp] theorem tsize_27 : tsize Tryz.prog 27 = some 2 := by kernel_rfl
@[simp] theorem tbytes_27 : tbytes Tryz.prog 27 = some 16 := by kernel_rfl
@[simp] theorem tzeroV_27 : tzeroV Tryz.prog 27 = some (.agg [.val (.int .i64 0), .val (.int .i64 0)]) := by kernel_rfl
@[simp] theorem tzero_27 : tzero Tryz.prog 27 = some [.val (.int .i64 0), .val (.int .i64 0)] := by kernel_rfl
attribute [simp] Tryz.underlying27
@[simp] theorem tsize_28 : tsize Tryz.prog 28 = some 1 := by kernel_rfl
@[simp] theorem tbytes_28 : tbytes Tryz.prog 28 = some 8 := by kernel_rfl
@[simp] theorem tzeroV_28 : tzeroV Tryz.prog 28 = some (.val .nilFunc) := by kernel_rfl
@[simp] theorem tzero_28 : tzero Tryz.prog 28 = some [.val .nilFunc] := by kernel_rfl
attribute [simp] Tryz.underlying28
@[simp] theorem tsize_29 : tsize Tryz.prog 29 = some 1 := by kernel_rfl
@[simp] theorem tbytes_29 : tbytes Tryz.prog 29 = some 24 := by kernel_rfl
@[simp] theorem tzeroV_29 : tzeroV Tryz.prog 29 = some (.val (.slice none 0 0)) := by kernel_rfl
@[simp] theorem tzero_29 : tzero Tryz.prog 29 = some [.val (.slice none 0 0)] := by kernel_rfl
attribute [simp] Tryz.underlying29
@[simp] theorem tsize_30 : tsize Tryz.prog 30 = some 3 := by kernel_rfl
@[simp] theorem tbytes_30 : tbytes Tryz.prog 30 = some 40 := by kernel_rfl
@[simp] theorem tzeroV_30 : tzeroV Tryz.prog 30 = some (.agg [.val (.slice none 0 0), .val (.int .i64 0), .val (.int .i64 0)]) := by kernel_rfl
@[simp] theorem tzero_30 : tzero Tryz.prog 30 = some [.val (.slice none 0 0), .val (.int .i64 0), .val (.int .i64 0)] := by kernel_rfl
attribute [simp] Tryz.underlying30
@[simp] theorem tsize_31 : tsize Tryz.prog 31 = some 3 := by kernel_rfl
@[simp] theorem tbytes_31 : tbytes Tryz.prog 31 = some 40 := by kernel_rfl
@[simp] theorem tzeroV_31 : tzeroV Tryz.prog 31 = some (.agg [.val (.slice none 0 0), .val (.int .i64 0), .val (.int .i64 0)]) := by kernel_rfl
@[simp] theorem tzero_31 : tzero Tryz.prog 31 = some [.val (.slice none 0 0), .val (.int .i64 0), .val (.int .i64 0)] := by kernel_rfl
attribute [simp] Tryz.underlying31
@[simp] theorem held_31 : Tryz.prog.stoodInHeld 31 = false := by kernel_rfl
@[simp] theorem guard_31 : Tryz.prog.eqGuardType Tryz.prog.depth 31 = false := by kernel_rfl
@[simp] theorem tsize_32 : tsize Tryz.prog 32 = some 4 := by kernel_rfl
@[simp] theorem tbytes_32 : tbytes Tryz.prog 32 = some 48 := by kernel_rfl
@[simp] theorem tzeroV_32 : tzeroV Tryz.prog 32 = some (.agg [.val (.slice none 0 0), .val (.int .i64 0), .val (.int .i64 0), .val (.int .i64 0)]) := by kernel_rfl
@[simp] theorem tzero_32 : tzero Tryz.prog 32 = some [.val (.slice none 0 0), .val (.int .i64 0), .val (.int .i64 0), .val (.int .i64 0)] := by kernel_rfl
attribute [simp] Tryz.underlying32
@[simp] theorem tsize_33 : tsize Tryz.prog 33 = some 4 := by kernel_rfl
@[simp] theorem tbytes_33 : tbytes Tryz.prog 33 = some 48 := by kernel_rfl
@[simp] theorem tzeroV_33 : tzeroV Tryz.prog 33 = some (.agg [.val (.slice none 0 0), .val (.int .i64 0), .val (.int .i64 0), .val (.int .i64 0)]) := by kernel_rfl
@[simp] theorem tzero_33 : tzero Tryz.prog 33 = some [.val (.slice none 0 0), .val (.int .i64 0), .val (.int .i64 0), .val (.int .i64 0)] := by kernel_rfl
attribute [simp] Tryz.underlying33
@[simp] theorem held_33 : Tryz.prog.stoodInHeld 33 = false := by kernel_rfl
@[simp] theorem guard_33 : Tryz.prog.eqGuardType Tryz.prog.depth 33 = false := by kernel_rfl
@[simp] theorem tsize_34 : tsize Tryz.prog 34 = some 1 := by kernel_rfl
@[simp] theorem tbytes_34 : tbytes Tryz.prog 34 = some 8 := by kernel_rfl
@[simp] theorem tzeroV_34 : tzeroV Tryz.prog 34 = some (.val (.int .i64 0)) := by kernel_rfl
@[simp] theorem tzero_34 : tzero Tryz.prog 34 = some [.val (.int .i64 0)] := by kernel_rfl
attribute [simp] Tryz.underlying34
@[simp] theorem tsize_36 : tsize Tryz.prog 36 = some 1 := by kernel_rfl
@[simp] theorem tbytes_36 : tbytes Tryz.prog 36 = some 8 := by kernel_rfl
@[simp] theorem tzeroV_36 : tzeroV Tryz.prog 36 = some (.val .nilFunc) := by kernel_rfl
@[simp] theorem tzero_36 : tzero Tryz.prog 36 = some [.val .nilFunc] := by kernel_rfl
attribute [simp] Tryz.underlying36
@[simp] theorem tsize_37 : tsize Tryz.prog 37 = some 1 := by kernel_rfl
@[simp] theorem tbytes_37 : tbytes Tryz.prog 37 = some 8 := by kernel_rfl
@[simp] theorem tzeroV_37 : tzeroV Tryz.prog 37 = some (.val .nilFunc) := by kernel_rfl
@[simp] theorem tzero_37 : tzero Tryz.prog 37 = some [.val .nilFunc] := by kernel_rfl
attribute [simp] Tryz.underlying37
@[simp] theorem tsize_38 : tsize Tryz.prog 38 = some 1 := by kernel_rfl
@[simp] theorem tbytes_38 : tbytes Tryz.prog 38 = some 8 := by kernel_rfl
@[simp] theorem tzeroV_38 : tzeroV Tryz.prog 38 = some (.val .nilFunc) := by kernel_rfl
@[simp] theorem tzero_38 : tzero Tryz.prog 38 = some [.val .nilFunc] := by kernel_rfl
attribute [simp] Tryz.underlying38
@[simp] theorem tsize_39 : tsize Tryz.prog 39 = some 1 := by kernel_rfl
@[simp] theorem tbytes_39 : tbytes Tryz.prog 39 = some 8 := by kernel_rfl
@[simp] theorem tzeroV_39 : tzeroV Tryz.prog 39 = some (.val .nilFunc) := by kernel_rfl
@[simp] theorem tzero_39 : tzero Tryz.prog 39 = some [.val .nilFunc] := by kernel_rfl
attribute [simp] Tryz.underlying39
@[simp] theorem tsize_40 : tsize Tryz.prog 40 = some 1 := by kernel_rfl
@[simp] theorem tbytes_40 : tbytes Tryz.prog 40 = some 24 := by kernel_rfl
@[simp] theorem tzeroV_40 : tzeroV Tryz.prog 40 = some (.val (.slice none 0 0)) := by kernel_rfl
@[simp] theorem tzero_40 : tzero Tryz.prog 40 = some [.val (.slice none 0 0)] := by kernel_rfl
attribute [simp] Tryz.underlying40
@[simp] theorem tsize_41 : tsize Tryz.prog 41 = some 1 := by kernel_rfl
@[simp] theorem tbytes_41 : tbytes Tryz.prog 41 = some 8 := by kernel_rfl
@[simp] theorem tzeroV_41 : tzeroV Tryz.prog 41 = some (.val .nilFunc) := by kernel_rfl
@[simp] theorem tzero_41 : tzero Tryz.prog 41 = some [.val .nilFunc] := by kernel_rfl
attribute [simp] Tryz.underlying41
@[simp] theorem tsize_42 : tsize Tryz.prog 42 = some 1 := by kernel_rfl
@[simp] theorem tbytes_42 : tbytes Tryz.prog 42 = some 8 := by kernel_rfl
@[simp] theorem tzeroV_42 : tzeroV Tryz.prog 42 = some (.val .nilFunc) := by kernel_rfl
@[simp] theorem tzero_42 : tzero Tryz.prog 42 = some [.val .nilFunc] := by kernel_rfl
attribute [simp] Tryz.underlying42
@[simp] theorem tsize_43 : tsize Tryz.prog 43 = some 1 := by kernel_rfl
@[simp] theorem tbytes_43 : tbytes Tryz.prog 43 = some 24 := by kernel_rfl
@[simp] theorem tzeroV_43 : tzeroV Tryz.prog 43 = some (.val (.slice none 0 0)) := by kernel_rfl
@[simp] theorem tzero_43 : tzero Tryz.prog 43 = some [.val (.slice none 0 0)] := by kernel_rfl
attribute [simp] Tryz.underlying43
@[simp] theorem tsize_44 : tsize Tryz.prog 44 = some 5 := by kernel_rfl
@[simp] theorem tbytes_44 : tbytes Tryz.prog 44 = some 56 := by kernel_rfl
@[simp] theorem tzeroV_44 : tzeroV Tryz.prog 44 = some (.agg [.val (.int .i64 0), .val (.int .i64 0), .val (.slice none 0 0), .val (.int .i64 0), .val (.int .i64 0)]) := by kernel_rfl
@[simp] theorem tzero_44 : tzero Tryz.prog 44 = some [.val (.int .i64 0), .val (.int .i64 0), .val (.slice none 0 0), .val (.int .i64 0), .val (.int .i64 0)] := by kernel_rfl
attribute [simp] Tryz.underlying44
@[simp] theorem tsize_45 : tsize Tryz.prog 45 = some 5 := by kernel_rfl
@[simp] theorem tbytes_45 : tbytes Tryz.prog 45 = some 56 := by kernel_rfl
@[simp] theorem tzeroV_45 : tzeroV Tryz.prog 45 = some (.agg [.val (.int .i64 0), .val (.int .i64 0), .val (.slice none 0 0), .val (.int .i64 0), .val (.int .i64 0)]) := by kernel_rfl
@[simp] theorem tzero_45 : tzero Tryz.prog 45 = some [.val (.int .i64 0), .val (.int .i64 0), .val (.slice none 0 0), .val (.int .i64 0), .val (.int .i64 0)] := by kernel_rfl
attribute [simp] Tryz.underlying45
@[simp] theorem held_45 : Tryz.prog.stoodInHeld 45 = false := by kernel_rfl
@[simp] theorem guard_45 : Tryz.prog.eqGuardType Tryz.prog.depth 45 = false := by kernel_rfl
@[simp] theorem tsize_47 : tsize Tryz.prog 47 = some 1 := by kernel_rfl
@[simp] theorem tbytes_47 : tbytes Tryz.prog 47 = some 8 := by kernel_rfl
@[simp] theorem tzeroV_47 : tzeroV Tryz.prog 47 = some (.val .nilFunc) := by kernel_rfl
@[simp] theorem tzero_47 : tzero Tryz.prog 47 = some [.val .nilFunc] := by kernel_rfl
attribute [simp] Tryz.underlying47
@[simp] theorem tsize_48 : tsize Tryz.prog 48 = some 1 := by kernel_rfl
@[simp] theorem tbytes_48 : tbytes Tryz.prog 48 = some 8 := by kernel_rfl
@[simp] theorem tzeroV_48 : tzeroV Tryz.prog 48 = some (.val .nilFunc) := by kernel_rfl
@[simp] theorem tzero_48 : tzero Tryz.prog 48 = some [.val .nilFunc] := by kernel_rfl
attribute [simp] Tryz.underlying48
@[simp] theorem tsize_50 : tsize Tryz.prog 50 = some 1 := by kernel_rfl
@[simp] theorem tbytes_50 : tbytes Tryz.prog 50 = some 8 := by kernel_rfl
@[simp] theorem tzeroV_50 : tzeroV Tryz.prog 50 = some (.val .nilFunc) := by kernel_rfl
@[simp] theorem tzero_50 : tzero Tryz.prog 50 = some [.val .nilFunc] := by kernel_rfl
attribute [simp] Tryz.underlying50
@[simp] theorem tsize_52 : tsize Tryz.prog 52 = some 1 := by kernel_rfl
@[simp] theorem tbytes_52 : tbytes Tryz.prog 52 = some 8 := by kernel_rfl
@[simp] theorem tzeroV_52 : tzeroV Tryz.prog 52 = some (.val .nilFunc) := by kernel_rfl
@[simp] theorem tzero_52 : tzero Tryz.prog 52 = some [.val .nilFunc] := by kernel_rfl
attribute [simp] Tryz.underlying52
@[simp] theorem tsize_53 : tsize Tryz.prog 53 = some 1 := by kernel_rfl
@[simp] theorem tbytes_53 : tbytes Tryz.prog 53 = some 8 := by kernel_rfl
@[simp] theorem tzeroV_53 : tzeroV Tryz.prog 53 = some (.val .nilFunc) := by kernel_rfl
@[simp] theorem tzero_53 : tzero Tryz.prog 53 = some [.val .nilFunc] := by kernel_rfl
attribute [simp] Tryz.underlying53
@[simp] theorem tsize_54 : tsize Tryz.prog 54 = some 1 := by kernel_rfl
@[simp] theorem tbytes_54 : tbytes Tryz.prog 54 = some 8 := by kernel_rfl
@[simp] theorem tzeroV_54 : tzeroV Tryz.prog 54 = some (.val .nilFunc) := by kernel_rfl
@[simp] theorem tzero_54 : tzero Tryz.prog 54 = some [.val .nilFunc] := by kernel_rfl
attribute [simp] Tryz.underlying54
@[simp] theorem tsize_55 : tsize Tryz.prog 55 = some 1 := by kernel_rfl
@[simp] theorem tbytes_55 : tbytes Tryz.prog 55 = some 8 := by kernel_rfl
@[simp] theorem tzeroV_55 : tzeroV Tryz.prog 55 = some (.val .nilFunc) := by kernel_rfl
@[simp] theorem tzero_55 : tzero Tryz.prog 55 = some [.val .nilFunc] := by kernel_rfl
attribute [simp] Tryz.underlying55
@[simp] theorem tsize_57 : tsize Tryz.prog 57 = some 1 := by kernel_rfl
@[simp] theorem tbytes_57 : tbytes Tryz.prog 57 = some 8 := by kernel_rfl
@[simp] theorem tzeroV_57 : tzeroV Tryz.prog 57 = some (.val .nilFunc) := by kernel_rfl
@[simp] theorem tzero_57 : tzero Tryz.prog 57 = some [.val .nilFunc] := by kernel_rfl
attribute [simp] Tryz.underlying57
@[simp] theorem tsize_59 : tsize Tryz.prog 59 = some 1 := by kernel_rfl
@[simp] theorem tbytes_59 : tbytes Tryz.prog 59 = some 8 := by kernel_rfl
@[simp] theorem tzeroV_59 : tzeroV Tryz.prog 59 = some (.val .nilFunc) := by kernel_rfl
@[simp] theorem tzero_59 : tzero Tryz.prog 59 = some [.val .nilFunc] := by kernel_rfl
attribute [simp] Tryz.underlying59
@[simp] theorem tsize_60 : tsize Tryz.prog 60 = some 1 := by kernel_rfl
@[simp] theorem tbytes_60 : tbytes Tryz.prog 60 = some 8 := by kernel_rfl
@[simp] theorem tzeroV_60 : tzeroV Tryz.prog 60 = some (.val .nilFunc) := by kernel_rfl
@[simp] theorem tzero_60 : tzero Tryz.prog 60 = some [.val .nilFunc] := by kernel_rfl
attribute [simp] Tryz.underlying60
@[simp] theorem tsize_61 : tsize Tryz.prog 61 = some 1 := by kernel_rfl
@[simp] theorem tbytes_61 : tbytes Tryz.prog 61 = some 8 := by kernel_rfl
@[simp] theorem tzeroV_61 : tzeroV Tryz.prog 61 = some (.val .nilFunc) := by kernel_rfl
@[simp] theorem tzero_61 : tzero Tryz.prog 61 = some [.val .nilFunc] := by kernel_rfl
attribute [simp] Tryz.underlying61
@[simp] theorem tsize_62 : tsize Tryz.prog 62 = some 1 := by kernel_rfl
@[simp] theorem tbytes_62 : tbytes Tryz.prog 62 = some 8 := by kernel_rfl
@[simp] theorem tzeroV_62 : tzeroV Tryz.prog 62 = some (.val .nilFunc) := by kernel_rfl
@[simp] theorem tzero_62 : tzero Tryz.prog 62 = some [.val .nilFunc] := by kernel_rfl
attribute [simp] Tryz.underlying62
@[simp] theorem tsize_63 : tsize Tryz.prog 63 = some 1 := by kernel_rfl
@[simp] theorem tbytes_63 : tbytes Tryz.prog 63 = some 8 := by kernel_rfl
@[simp] theorem tzeroV_63 : tzeroV Tryz.prog 63 = some (.val .nilFunc) := by kernel_rfl
@[simp] theorem tzero_63 : tzero Tryz.prog 63 = some [.val .nilFunc] := by kernel_rfl
attribute [simp] Tryz.underlying63
@[simp] theorem tsize_65 : tsize Tryz.prog 65 = some 1 := by kernel_rfl
@[simp] theorem tbytes_65 : tbytes Tryz.prog 65 = some 8 := by kernel_rfl
@[simp] theorem tzeroV_65 : tzeroV Tryz.prog 65 = some (.val .nilFunc) := by kernel_rfl
@[simp] theorem tzero_65 : tzero Tryz.prog 65 = some [.val .nilFunc] := by kernel_rfl
attribute [simp] Tryz.underlying65
@[simp] theorem tsize_66 : tsize Tryz.prog 66 = some 1 := by kernel_rfl
@[simp] theorem tbytes_66 : tbytes Tryz.prog 66 = some 8 := by kernel_rfl
@[simp] theorem tzeroV_66 : tzeroV Tryz.prog 66 = some (.val .nilFunc) := by kernel_rfl
@[simp] theorem tzero_66 : tzero Tryz.prog 66 = some [.val .nilFunc] := by kernel_rfl
attribute [simp] Tryz.underlying66
@[simp] theorem tsize_67 : tsize Tryz.prog 67 = some 1 := by kernel_rfl
@[simp] theorem tbytes_67 : tbytes Tryz.prog 67 = some 8 := by kernel_rfl
@[simp] theorem tzeroV_67 : tzeroV Tryz.prog 67 = some (.val .nilFunc) := by kernel_rfl
@[simp] theorem tzero_67 : tzero Tryz.prog 67 = some [.val .nilFunc] := by kernel_rfl
attribute [simp] Tryz.underlying67
@[simp] theorem tsize_68 : tsize Tryz.prog 68 = some 1 := by kernel_rfl
@[simp] theorem tbytes_68 : tbytes Tryz.prog 68 = some 8 := by kernel_rfl
@[simp] theorem tzeroV_68 : tzeroV Tryz.prog 68 = some (.val (.pointer none)) := by kernel_rfl
@[simp] theorem tzero_68 : tzero Tryz.prog 68 = some [.val (.pointer none)] := by kernel_rfl
attribute [simp] Tryz.underlying68
@[simp] theorem tsize_69 : tsize Tryz.prog 69 = some 1 := by kernel_rfl
@[simp] theorem tbytes_69 : tbytes Tryz.prog 69 = some 8 := by kernel_rfl
@[simp] theorem tzeroV_69 : tzeroV Tryz.prog 69 = some (.val .nilFunc) := by kernel_rfl
@[simp] theorem tzero_69 : tzero Tryz.prog 69 = some [.val .nilFunc] := by kernel_rfl
attribute [simp] Tryz.underlying69
@[simp] theorem tsize_70 : tsize Tryz.prog 70 = some 4 := by kernel_rfl
@[simp] theorem tbytes_70 : tbytes Tryz.prog 70 = some 48 := by kernel_rfl
@[simp] theorem tzeroV_70 : tzeroV Tryz.prog 70 = some (.agg [.val (.slice none 0 0), .val (.int .i64 0), .val (.int .i64 0), .val (.int .i64 0)]) := by kernel_rfl
@[simp] theorem tzero_70 : tzero Tryz.prog 70 = some [.val (.slice none 0 0), .val (.int .i64 0), .val (.int .i64 0), .val (.int .i64 0)] := by kernel_rfl
attribute [simp] Tryz.underlying70
@[simp] theorem tsize_71 : tsize Tryz.prog 71 = some 4 := by kernel_rfl
@[simp] theorem tbytes_71 : tbytes Tryz.prog 71 = some 48 := by kernel_rfl
@[simp] theorem tzeroV_71 : tzeroV Tryz.prog 71 = some (.agg [.val (.slice none 0 0), .val (.int .i64 0), .val (.int .i64 0), .val (.int .i64 0)]) := by kernel_rfl
@[simp] theorem tzero_71 : tzero Tryz.prog 71 = some [.val (.slice none 0 0), .val (.int .i64 0), .val (.int .i64 0), .val (.int .i64 0)] := by kernel_rfl
attribute [simp] Tryz.underlying71
@[simp] theorem held_71 : Tryz.prog.stoodInHeld 71 = false := by kernel_rfl
@[simp] theorem guard_71 : Tryz.prog.eqGuardType Tryz.prog.depth 71 = false := by kernel_rfl
@[simp] theorem tsize_72 : tsize Tryz.prog 72 = some 1 := by kernel_rfl
@[simp] theorem tbytes_72 : tbytes Tryz.prog 72 = some 8 := by kernel_rfl
@[simp] theorem tzeroV_72 : tzeroV Tryz.prog 72 = some (.val .nilFunc) := by kernel_rfl
@[simp] theorem tzero_72 : tzero Tryz.prog 72 = some [.val .nilFunc] := by kernel_rfl
attribute [simp] Tryz.underlying72
@[simp] theorem tsize_73 : tsize Tryz.prog 73 = some 1 := by kernel_rfl
@[simp] theorem tbytes_73 : tbytes Tryz.prog 73 = some 8 := by kernel_rfl
@[simp] theorem tzeroV_73 : tzeroV Tryz.prog 73 = some (.val (.map none)) := by kernel_rfl
@[simp] theorem tzero_73 : tzero Tryz.prog 73 = some [.val (.map none)] := by kernel_rfl
attribute [simp] Tryz.underlying73
@[simp] theorem tsize_74 : tsize Tryz.prog 74 = some 1 := by kernel_rfl
@[simp] theorem tbytes_74 : tbytes Tryz.prog 74 = some 8 := by kernel_rfl
@[simp] theorem tzeroV_74 : tzeroV Tryz.prog 74 = some (.val .nilFunc) := by kernel_rfl
@[simp] theorem tzero_74 : tzero Tryz.prog 74 = some [.val .nilFunc] := by kernel_rfl
attribute [simp] Tryz.underlying74
@[simp] theorem tsize_75 : tsize Tryz.prog 75 = some 1 := by kernel_rfl
@[simp] theorem tbytes_75 : tbytes Tryz.prog 75 = some 8 := by kernel_rfl
@[simp] theorem tzeroV_75 : tzeroV Tryz.prog 75 = some (.val .nilFunc) := by kernel_rfl
@[simp] theorem tzero_75 : tzero Tryz.prog 75 = some [.val .nilFunc] := by kernel_rfl
attribute [simp] Tryz.underlying75
@[simp] theorem tsize_77 : tsize Tryz.prog 77 = some 1 := by kernel_rfl
@[simp] theorem tbytes_77 : tbytes Tryz.prog 77 = some 8 := by kernel_rfl
@[simp] theorem tzeroV_77 : tzeroV Tryz.prog 77 = some (.val .nilFunc) := by kernel_rfl
@[simp] theorem tzero_77 : tzero Tryz.prog 77 = some [.val .nilFunc] := by kernel_rfl
attribute [simp] Tryz.underlying77
@[simp] theorem tsize_79 : tsize Tryz.prog 79 = some 1 := by kernel_rfl
@[simp] theorem tbytes_79 : tbytes Tryz.prog 79 = some 8 := by kernel_rfl
@[simp] theorem tzeroV_79 : tzeroV Tryz.prog 79 = some (.val .nilFunc) := by kernel_rfl
@[simp] theorem tzero_79 : tzero Tryz.prog 79 = some [.val .nilFunc] := by kernel_rfl
attribute [simp] Tryz.underlying79
@[simp] theorem tsize_80 : tsize Tryz.prog 80 = some 1 := by kernel_rfl
@[simp] theorem tbytes_80 : tbytes Tryz.prog 80 = some 8 := by kernel_rfl
@[simp] theorem tzeroV_80 : tzeroV Tryz.prog 80 = some (.val .nilFunc) := by kernel_rfl
@[simp] theorem tzero_80 : tzero Tryz.prog 80 = some [.val .nilFunc] := by kernel_rfl
attribute [simp] Tryz.underlying80
@[simp] theorem tsize_81 : tsize Tryz.prog 81 = some 1 := by kernel_rfl
@[simp] theorem tbytes_81 : tbytes Tryz.prog 81 = some 8 := by kernel_rfl
@[simp] theorem tzeroV_81 : tzeroV Tryz.prog 81 = some (.val .nilFunc) := by kernel_rfl
@[simp] theorem tzero_81 : tzero Tryz.prog 81 = some [.val .nilFunc] := by kernel_rfl
attribute [simp] Tryz.underlying81
@[simp] theorem tsize_82 : tsize Tryz.prog 82 = some 1 := by kernel_rfl
@[simp] theorem tbytes_82 : tbytes Tryz.prog 82 = some 8 := by kernel_rfl
@[simp] theorem tzeroV_82 : tzeroV Tryz.prog 82 = some (.val .nilFunc) := by kernel_rfl
@[simp] theorem tzero_82 : tzero Tryz.prog 82 = some [.val .nilFunc] := by kernel_rfl
attribute [simp] Tryz.underlying82
@[simp] theorem tsize_83 : tsize Tryz.prog 83 = some 2 := by kernel_rfl
@[simp] theorem tbytes_83 : tbytes Tryz.prog 83 = some 24 := by kernel_rfl
@[simp] theorem tzeroV_83 : tzeroV Tryz.prog 83 = some (.agg [.val (.string ⟨#[]⟩), .val (.int .i64 0)]) := by kernel_rfl
@[simp] theorem tzero_83 : tzero Tryz.prog 83 = some [.val (.string ⟨#[]⟩), .val (.int .i64 0)] := by kernel_rfl
attribute [simp] Tryz.underlying83
@[simp] theorem tsize_84 : tsize Tryz.prog 84 = some 2 := by kernel_rfl
@[simp] theorem tbytes_84 : tbytes Tryz.prog 84 = some 24 := by kernel_rfl
@[simp] theorem tzeroV_84 : tzeroV Tryz.prog 84 = some (.agg [.val (.string ⟨#[]⟩), .val (.int .i64 0)]) := by kernel_rfl
@[simp] theorem tzero_84 : tzero Tryz.prog 84 = some [.val (.string ⟨#[]⟩), .val (.int .i64 0)] := by kernel_rfl
attribute [simp] Tryz.underlying84
@[simp] theorem held_84 : Tryz.prog.stoodInHeld 84 = false := by kernel_rfl
@[simp] theorem guard_84 : Tryz.prog.eqGuardType Tryz.prog.depth 84 = false := by kernel_rfl
@[simp] theorem tsize_86 : tsize Tryz.prog 86 = some 1 := by kernel_rfl
@[simp] theorem tbytes_86 : tbytes Tryz.prog 86 = some 8 := by kernel_rfl
@[simp] theorem tzeroV_86 : tzeroV Tryz.prog 86 = some (.val .nilFunc) := by kernel_rfl
@[simp] theorem tzero_86 : tzero Tryz.prog 86 = some [.val .nilFunc] := by kernel_rfl
attribute [simp] Tryz.underlying86
@[simp] theorem tsize_88 : tsize Tryz.prog 88 = some 1 := by kernel_rfl
@[simp] theorem tbytes_88 : tbytes Tryz.prog 88 = some 8 := by kernel_rfl
@[simp] theorem tzeroV_88 : tzeroV Tryz.prog 88 = some (.val .nilFunc) := by kernel_rfl
@[simp] theorem tzero_88 : tzero Tryz.prog 88 = some [.val .nilFunc] := by kernel_rfl
attribute [simp] Tryz.underlying88
@[simp] theorem tsize_89 : tsize Tryz.prog 89 = some 1 := by kernel_rfl
@[simp] theorem tbytes_89 : tbytes Tryz.prog 89 = some 8 := by kernel_rfl
@[simp] theorem tzeroV_89 : tzeroV Tryz.prog 89 = some (.val .nilFunc) := by kernel_rfl
@[simp] theorem tzero_89 : tzero Tryz.prog 89 = some [.val .nilFunc] := by kernel_rfl
attribute [simp] Tryz.underlying89
@[simp] theorem tsize_90 : tsize Tryz.prog 90 = some 1 := by kernel_rfl
@[simp] theorem tbytes_90 : tbytes Tryz.prog 90 = some 8 := by kernel_rfl
@[simp] theorem tzeroV_90 : tzeroV Tryz.prog 90 = some (.val .nilFunc) := by kernel_rfl
@[simp] theorem tzero_90 : tzero Tryz.prog 90 = some [.val .nilFunc] := by kernel_rfl
attribute [simp] Tryz.underlying90
@[simp] theorem tsize_91 : tsize Tryz.prog 91 = some 1 := by kernel_rfl
@[simp] theorem tbytes_91 : tbytes Tryz.prog 91 = some 8 := by kernel_rfl
@[simp] theorem tzeroV_91 : tzeroV Tryz.prog 91 = some (.val .nilFunc) := by kernel_rfl
@[simp] theorem tzero_91 : tzero Tryz.prog 91 = some [.val .nilFunc] := by kernel_rfl
attribute [simp] Tryz.underlying91
@[simp] theorem tsize_92 : tsize Tryz.prog 92 = some 1 := by kernel_rfl
@[simp] theorem tbytes_92 : tbytes Tryz.prog 92 = some 24 := by kernel_rfl
@[simp] theorem tzeroV_92 : tzeroV Tryz.prog 92 = some (.val (.slice none 0 0)) := by kernel_rfl
@[simp] theorem tzero_92 : tzero Tryz.prog 92 = some [.val (.slice none 0 0)] := by kernel_rfl
attribute [simp] Tryz.underlying92
@[simp] theorem tsize_93 : tsize Tryz.prog 93 = some 1 := by kernel_rfl
@[simp] theorem tbytes_93 : tbytes Tryz.prog 93 = some 8 := by kernel_rfl
@[simp] theorem tzeroV_93 : tzeroV Tryz.prog 93 = some (.val .nilFunc) := by kernel_rfl
@[simp] theorem tzero_93 : tzero Tryz.prog 93 = some [.val .nilFunc] := by kernel_rfl
attribute [simp] Tryz.underlying93
@[simp] theorem tsize_94 : tsize Tryz.prog 94 = some 3 := by kernel_rfl
@[simp] theorem tbytes_94 : tbytes Tryz.prog 94 = some 40 := by kernel_rfl
@[simp] theorem tzeroV_94 : tzeroV Tryz.prog 94 = some (.agg [.val (.int .i64 0), .val (.string ⟨#[]⟩), .val (.string ⟨#[]⟩)]) := by kernel_rfl
@[simp] theorem tzero_94 : tzero Tryz.prog 94 = some [.val (.int .i64 0), .val (.string ⟨#[]⟩), .val (.string ⟨#[]⟩)] := by kernel_rfl
attribute [simp] Tryz.underlying94
@[simp] theorem tsize_95 : tsize Tryz.prog 95 = some 3 := by kernel_rfl
@[simp] theorem tbytes_95 : tbytes Tryz.prog 95 = some 40 := by kernel_rfl
@[simp] theorem tzeroV_95 : tzeroV Tryz.prog 95 = some (.agg [.val (.int .i64 0), .val (.string ⟨#[]⟩), .val (.string ⟨#[]⟩)]) := by kernel_rfl
@[simp] theorem tzero_95 : tzero Tryz.prog 95 = some [.val (.int .i64 0), .val (.string ⟨#[]⟩), .val (.string ⟨#[]⟩)] := by kernel_rfl
attribute [simp] Tryz.underlying95
@[simp] theorem held_95 : Tryz.prog.stoodInHeld 95 = false := by kernel_rfl
@[simp] theorem guard_95 : Tryz.prog.eqGuardType Tryz.prog.depth 95 = false := by kernel_rfl
@[simp] theorem tsize_96 : tsize Tryz.prog 96 = some 1 := by kernel_rfl
@[simp] theorem tbytes_96 : tbytes Tryz.prog 96 = some 8 := by kernel_rfl
@[simp] theorem tzeroV_96 : tzeroV Tryz.prog 96 = some (.val (.map none)) := by kernel_rfl
@[simp] theorem tzero_96 : tzero Tryz.prog 96 = some [.val (.map none)] := by kernel_rfl
attribute [simp] Tryz.underlying96
@[simp] theorem tsize_97 : tsize Tryz.prog 97 = some 1 := by kernel_rfl
@[simp] theorem tbytes_97 : tbytes Tryz.prog 97 = some 8 := by kernel_rfl
@[simp] theorem tzeroV_97 : tzeroV Tryz.prog 97 = some (.val .nilFunc) := by kernel_rfl
@[simp] theorem tzero_97 : tzero Tryz.prog 97 = some [.val .nilFunc] := by kernel_rfl
attribute [simp] Tryz.underlying97
@[simp] theorem tsize_99 : tsize Tryz.prog 99 = some 1 := by kernel_rfl
@[simp] theorem tbytes_99 : tbytes Tryz.prog 99 = some 8 := by kernel_rfl
@[simp] theorem tzeroV_99 : tzeroV Tryz.prog 99 = some (.val .nilFunc) := by kernel_rfl
@[simp] theorem tzero_99 : tzero Tryz.prog 99 = some [.val .nilFunc] := by kernel_rfl
attribute [simp] Tryz.underlying99
@[simp] theorem tsize_100 : tsize Tryz.prog 100 = some 0 := by kernel_rfl
@[simp] theorem tbytes_100 : tbytes Tryz.prog 100 = some 0 := by kernel_rfl
@[simp] theorem tzeroV_100 : tzeroV Tryz.prog 100 = some (.agg []) := by kernel_rfl
@[simp] theorem tzero_100 : tzero Tryz.prog 100 = some [] := by kernel_rfl
attribute [simp] Tryz.underlying100
@[simp] theorem tsize_101 : tsize Tryz.prog 101 = some 1 := by kernel_rfl
@[simp] theorem tbytes_101 : tbytes Tryz.prog 101 = some 8 := by kernel_rfl
@[simp] theorem tzeroV_101 : tzeroV Tryz.prog 101 = some (.val .nilFunc) := by kernel_rfl
@[simp] theorem tzero_101 : tzero Tryz.prog 101 = some [.val .nilFunc] := by kernel_rfl
attribute [simp] Tryz.underlying101
@[simp] theorem tsize_102 : tsize Tryz.prog 102 = some 1 := by kernel_rfl
@[simp] theorem tbytes_102 : tbytes Tryz.prog 102 = some 8 := by kernel_rfl
@[simp] theorem tzeroV_102 : tzeroV Tryz.prog 102 = some (.val .nilFunc) := by kernel_rfl
@[simp] theorem tzero_102 : tzero Tryz.prog 102 = some [.val .nilFunc] := by kernel_rfl
attribute [simp] Tryz.underlying102
@[simp] theorem tsize_103 : tsize Tryz.prog 103 = some 1 := by kernel_rfl
@[simp] theorem tbytes_103 : tbytes Tryz.prog 103 = some 8 := by kernel_rfl
@[simp] theorem tzeroV_103 : tzeroV Tryz.prog 103 = some (.val .nilFunc) := by kernel_rfl
@[simp] theorem tzero_103 : tzero Tryz.prog 103 = some [.val .nilFunc] := by kernel_rfl
attribute [simp] Tryz.underlying103
@[simp] theorem tsize_104 : tsize Tryz.prog 104 = some 1 := by kernel_rfl
@[simp] theorem tbytes_104 : tbytes Tryz.prog 104 = some 8 := by kernel_rfl
@[simp] theorem tzeroV_104 : tzeroV Tryz.prog 104 = some (.val .nilFunc) := by kernel_rfl
@[simp] theorem tzero_104 : tzero Tryz.prog 104 = some [.val .nilFunc] := by kernel_rfl
attribute [simp] Tryz.underlying104
@[simp] theorem tsize_105 : tsize Tryz.prog 105 = some 1 := by kernel_rfl
@[simp] theorem tbytes_105 : tbytes Tryz.prog 105 = some 8 := by kernel_rfl
@[simp] theorem tzeroV_105 : tzeroV Tryz.prog 105 = some (.val .nilFunc) := by kernel_rfl
@[simp] theorem tzero_105 : tzero Tryz.prog 105 = some [.val .nilFunc] := by kernel_rfl
attribute [simp] Tryz.underlying105
@[simp] theorem tsize_106 : tsize Tryz.prog 106 = some 1 := by kernel_rfl
@[simp] theorem tbytes_106 : tbytes Tryz.prog 106 = some 8 := by kernel_rfl
@[simp] theorem tzeroV_106 : tzeroV Tryz.prog 106 = some (.val .nilFunc) := by kernel_rfl
@[simp] theorem tzero_106 : tzero Tryz.prog 106 = some [.val .nilFunc] := by kernel_rfl
attribute [simp] Tryz.underlying106
@[simp] theorem tsize_107 : tsize Tryz.prog 107 = some 1 := by kernel_rfl
@[simp] theorem tbytes_107 : tbytes Tryz.prog 107 = some 8 := by kernel_rfl
@[simp] theorem tzeroV_107 : tzeroV Tryz.prog 107 = some (.val .nilFunc) := by kernel_rfl
@[simp] theorem tzero_107 : tzero Tryz.prog 107 = some [.val .nilFunc] := by kernel_rfl
attribute [simp] Tryz.underlying107
@[simp] theorem tsize_108 : tsize Tryz.prog 108 = some 1 := by kernel_rfl
@[simp] theorem tbytes_108 : tbytes Tryz.prog 108 = some 8 := by kernel_rfl
@[simp] theorem tzeroV_108 : tzeroV Tryz.prog 108 = some (.val .nilFunc) := by kernel_rfl
@[simp] theorem tzero_108 : tzero Tryz.prog 108 = some [.val .nilFunc] := by kernel_rfl
attribute [simp] Tryz.underlying108
@[simp] theorem tsize_109 : tsize Tryz.prog 109 = some 1 := by kernel_rfl
@[simp] theorem tbytes_109 : tbytes Tryz.prog 109 = some 8 := by kernel_rfl
@[simp] theorem tzeroV_109 : tzeroV Tryz.prog 109 = some (.val (.pointer none)) := by kernel_rfl
@[simp] theorem tzero_109 : tzero Tryz.prog 109 = some [.val (.pointer none)] := by kernel_rfl
attribute [simp] Tryz.underlying109
@[simp] theorem tsize_110 : tsize Tryz.prog 110 = some 1 := by kernel_rfl
@[simp] theorem tbytes_110 : tbytes Tryz.prog 110 = some 8 := by kernel_rfl
@[simp] theorem tzeroV_110 : tzeroV Tryz.prog 110 = some (.val .nilFunc) := by kernel_rfl
@[simp] theorem tzero_110 : tzero Tryz.prog 110 = some [.val .nilFunc] := by kernel_rfl
attribute [simp] Tryz.underlying110
@[simp] theorem tsize_111 : tsize Tryz.prog 111 = some 1 := by kernel_rfl
@[simp] theorem tbytes_111 : tbytes Tryz.prog 111 = some 8 := by kernel_rfl
@[simp] theorem tzeroV_111 : tzeroV Tryz.prog 111 = some (.val .nilFunc) := by kernel_rfl
@[simp] theorem tzero_111 : tzero Tryz.prog 111 = some [.val .nilFunc] := by kernel_rfl
attribute [simp] Tryz.underlying111
@[simp] theorem tsize_112 : tsize Tryz.prog 112 = some 1 := by kernel_rfl
@[simp] theorem tbytes_112 : tbytes Tryz.prog 112 = some 8 := by kernel_rfl
@[simp] theorem tzeroV_112 : tzeroV Tryz.prog 112 = some (.val .nilFunc) := by kernel_rfl
@[simp] theorem tzero_112 : tzero Tryz.prog 112 = some [.val .nilFunc] := by kernel_rfl
attribute [simp] Tryz.underlying112
@[simp] theorem tsize_113 : tsize Tryz.prog 113 = some 1 := by kernel_rfl
@[simp] theorem tbytes_113 : tbytes Tryz.prog 113 = some 8 := by kernel_rfl
@[simp] theorem tzeroV_113 : tzeroV Tryz.prog 113 = some (.val .nilFunc) := by kernel_rfl
@[simp] theorem tzero_113 : tzero Tryz.prog 113 = some [.val .nilFunc] := by kernel_rfl
attribute [simp] Tryz.underlying113
@[simp] theorem tsize_114 : tsize Tryz.prog 114 = some 1 := by kernel_rfl
@[simp] theorem tbytes_114 : tbytes Tryz.prog 114 = some 8 := by kernel_rfl
@[simp] theorem tzeroV_114 : tzeroV Tryz.prog 114 = some (.val .nilFunc) := by kernel_rfl
@[simp] theorem tzero_114 : tzero Tryz.prog 114 = some [.val .nilFunc] := by kernel_rfl
attribute [simp] Tryz.underlying114
@[simp] theorem tsize_116 : tsize Tryz.prog 116 = some 1 := by kernel_rfl
@[simp] theorem tbytes_116 : tbytes Tryz.prog 116 = some 8 := by kernel_rfl
@[simp] theorem tzeroV_116 : tzeroV Tryz.prog 116 = some (.val .nilFunc) := by kernel_rfl
@[simp] theorem tzero_116 : tzero Tryz.prog 116 = some [.val .nilFunc] := by kernel_rfl
attribute [simp] Tryz.underlying116
@[simp] theorem tsize_117 : tsize Tryz.prog 117 = some 1 := by kernel_rfl
@[simp] theorem tbytes_117 : tbytes Tryz.prog 117 = some 8 := by kernel_rfl
@[simp] theorem tzeroV_117 : tzeroV Tryz.prog 117 = some (.val .nilFunc) := by kernel_rfl
@[simp] theorem tzero_117 : tzero Tryz.prog 117 = some [.val .nilFunc] := by kernel_rfl
attribute [simp] Tryz.underlying117
@[simp] theorem tsize_118 : tsize Tryz.prog 118 = some 1 := by kernel_rfl
@[simp] theorem tbytes_118 : tbytes Tryz.prog 118 = some 8 := by kernel_rfl
@[simp] theorem tzeroV_118 : tzeroV Tryz.prog 118 = some (.val (.int .u64 0)) := by kernel_rfl
@[simp] theorem tzero_118 : tzero Tryz.prog 118 = some [.val (.int .u64 0)] := by kernel_rfl
attribute [simp] Tryz.underlying118
@[simp] theorem tsize_119 : tsize Tryz.prog 119 = some 1 := by kernel_rfl
@[simp] theorem tbytes_119 : tbytes Tryz.prog 119 = some 8 := by kernel_rfl
@[simp] theorem tzeroV_119 : tzeroV Tryz.prog 119 = some (.val .nilFunc) := by kernel_rfl
@[simp] theorem tzero_119 : tzero Tryz.prog 119 = some [.val .nilFunc] := by kernel_rfl
attribute [simp] Tryz.underlying119
@[simp] theorem tsize_120 : tsize Tryz.prog 120 = some 1 := by kernel_rfl
@[simp] theorem tbytes_120 : tbytes Tryz.prog 120 = some 8 := by kernel_rfl
@[simp] theorem tzeroV_120 : tzeroV Tryz.prog 120 = some (.val .nilFunc) := by kernel_rfl
@[simp] theorem tzero_120 : tzero Tryz.prog 120 = some [.val .nilFunc] := by kernel_rfl
attribute [simp] Tryz.underlying120
@[simp] theorem tsize_121 : tsize Tryz.prog 121 = some 1 := by kernel_rfl
@[simp] theorem tbytes_121 : tbytes Tryz.prog 121 = some 8 := by kernel_rfl
@[simp] theorem tzeroV_121 : tzeroV Tryz.prog 121 = some (.val .nilFunc) := by kernel_rfl
@[simp] theorem tzero_121 : tzero Tryz.prog 121 = some [.val .nilFunc] := by kernel_rfl
attribute [simp] Tryz.underlying121
@[simp] theorem tsize_122 : tsize Tryz.prog 122 = some 1 := by kernel_rfl
@[simp] theorem tbytes_122 : tbytes Tryz.prog 122 = some 8 := by kernel_rfl
@[simp] theorem tzeroV_122 : tzeroV Tryz.prog 122 = some (.val .nilFunc) := by kernel_rfl
@[simp] theorem tzero_122 : tzero Tryz.prog 122 = some [.val .nilFunc] := by kernel_rfl
attribute [simp] Tryz.underlying122
@[simp] theorem tsize_123 : tsize Tryz.prog 123 = some 1 := by kernel_rfl
@[simp] theorem tbytes_123 : tbytes Tryz.prog 123 = some 8 := by kernel_rfl
@[simp] theorem tzeroV_123 : tzeroV Tryz.prog 123 = some (.val .nilFunc) := by kernel_rfl
@[simp] theorem tzero_123 : tzero Tryz.prog 123 = some [.val .nilFunc] := by kernel_rfl
attribute [simp] Tryz.underlying123
@[simp] theorem tsize_124 : tsize Tryz.prog 124 = some 1 := by kernel_rfl
@[simp] theorem tbytes_124 : tbytes Tryz.prog 124 = some 8 := by kernel_rfl
@[simp] theorem tzeroV_124 : tzeroV Tryz.prog 124 = some (.val .nilFunc) := by kernel_rfl
@[simp] theorem tzero_124 : tzero Tryz.prog 124 = some [.val .nilFunc] := by kernel_rfl
attribute [simp] Tryz.underlying124
@[simp] theorem tsize_125 : tsize Tryz.prog 125 = some 1 := by kernel_rfl
@[simp] theorem tbytes_125 : tbytes Tryz.prog 125 = some 8 := by kernel_rfl
@[simp] theorem tzeroV_125 : tzeroV Tryz.prog 125 = some (.val .nilFunc) := by kernel_rfl
@[simp] theorem tzero_125 : tzero Tryz.prog 125 = some [.val .nilFunc] := by kernel_rfl
attribute [simp] Tryz.underlying125
@[simp] theorem tsize_126 : tsize Tryz.prog 126 = some 1 := by kernel_rfl
@[simp] theorem tbytes_126 : tbytes Tryz.prog 126 = some 8 := by kernel_rfl
@[simp] theorem tzeroV_126 : tzeroV Tryz.prog 126 = some (.val .nilFunc) := by kernel_rfl
@[simp] theorem tzero_126 : tzero Tryz.prog 126 = some [.val .nilFunc] := by kernel_rfl
attribute [simp] Tryz.underlying126
@[simp] theorem tsize_127 : tsize Tryz.prog 127 = some 1 := by kernel_rfl
@[simp] theorem tbytes_127 : tbytes Tryz.prog 127 = some 8 := by kernel_rfl
@[simp] theorem tzeroV_127 : tzeroV Tryz.prog 127 = some (.val .nilFunc) := by kernel_rfl
@[simp] theorem tzero_127 : tzero Tryz.prog 127 = some [.val .nilFunc] := by kernel_rfl
attribute [simp] Tryz.underlying127
@[simp] theorem tsize_128 : tsize Tryz.prog 128 = some 1 := by kernel_rfl
@[simp] theorem tbytes_128 : tbytes Tryz.prog 128 = some 8 := by kernel_rfl
@[simp] theorem tzeroV_128 : tzeroV Tryz.prog 128 = some (.val .nilFunc) := by kernel_rfl
@[simp] theorem tzero_128 : tzero Tryz.prog 128 = some [.val .nilFunc] := by kernel_rfl
attribute [simp] Tryz.underlying128
@[simp] theorem tsize_129 : tsize Tryz.prog 129 = some 1 := by kernel_rfl
@[simp] theorem tbytes_129 : tbytes Tryz.prog 129 = some 8 := by kernel_rfl
@[simp] theorem tzeroV_129 : tzeroV Tryz.prog 129 = some (.val .nilFunc) := by kernel_rfl
@[simp] theorem tzero_129 : tzero Tryz.prog 129 = some [.val .nilFunc] := by kernel_rfl
attribute [simp] Tryz.underlying129
@[simp] theorem tsize_130 : tsize Tryz.prog 130 = some 1 := by kernel_rfl
@[simp] theorem tbytes_130 : tbytes Tryz.prog 130 = some 8 := by kernel_rfl
@[simp] theorem tzeroV_130 : tzeroV Tryz.prog 130 = some (.val .nilFunc) := by kernel_rfl
@[simp] theorem tzero_130 : tzero Tryz.prog 130 = some [.val .nilFunc] := by kernel_rfl
attribute [simp] Tryz.underlying130
@[simp] theorem tsize_131 : tsize Tryz.prog 131 = some 1 := by kernel_rfl
@[simp] theorem tbytes_131 : tbytes Tryz.prog 131 = some 8 := by kernel_rfl
@[simp] theorem tzeroV_131 : tzeroV Tryz.prog 131 = some (.val .nilFunc) := by kernel_rfl
@[simp] theorem tzero_131 : tzero Tryz.prog 131 = some [.val .nilFunc] := by kernel_rfl
attribute [simp] Tryz.underlying131
@[simp] theorem tsize_132 : tsize Tryz.prog 132 = some 1 := by kernel_rfl
@[simp] theorem tbytes_132 : tbytes Tryz.prog 132 = some 8 := by kernel_rfl
@[simp] theorem tzeroV_132 : tzeroV Tryz.prog 132 = some (.val .nilFunc) := by kernel_rfl
@[simp] theorem tzero_132 : tzero Tryz.prog 132 = some [.val .nilFunc] := by kernel_rfl
attribute [simp] Tryz.underlying132
@[simp] theorem tsize_133 : tsize Tryz.prog 133 = some 3 := by kernel_rfl
@[simp] theorem tbytes_133 : tbytes Tryz.prog 133 = some 32 := by kernel_rfl
@[simp] theorem tzeroV_133 : tzeroV Tryz.prog 133 = some (.agg [.val (.string ⟨#[]⟩), .val (.int .i64 0), .val (.int .i64 0)]) := by kernel_rfl
@[simp] theorem tzero_133 : tzero Tryz.prog 133 = some [.val (.string ⟨#[]⟩), .val (.int .i64 0), .val (.int .i64 0)] := by kernel_rfl
attribute [simp] Tryz.underlying133
@[simp] theorem tsize_134 : tsize Tryz.prog 134 = some 3 := by kernel_rfl
@[simp] theorem tbytes_134 : tbytes Tryz.prog 134 = some 32 := by kernel_rfl
@[simp] theorem tzeroV_134 : tzeroV Tryz.prog 134 = some (.agg [.val (.string ⟨#[]⟩), .val (.int .i64 0), .val (.int .i64 0)]) := by kernel_rfl
@[simp] theorem tzero_134 : tzero Tryz.prog 134 = some [.val (.string ⟨#[]⟩), .val (.int .i64 0), .val (.int .i64 0)] := by kernel_rfl
attribute [simp] Tryz.underlying134
@[simp] theorem held_134 : Tryz.prog.stoodInHeld 134 = false := by kernel_rfl
@[simp] theorem guard_134 : Tryz.prog.eqGuardType Tryz.prog.depth 134 = false := by kernel_rfl
@[simp] theorem tsize_135 : tsize Tryz.prog 135 = some 1 := by kernel_rfl
@[simp] theorem tbytes_135 : tbytes Tryz.prog 135 = some 8 := by kernel_rfl
@[simp] theorem tzeroV_135 : tzeroV Tryz.prog 135 = some (.val .nilFunc) := by kernel_rfl
@[simp] theorem tzero_135 : tzero Tryz.prog 135 = some [.val .nilFunc] := by kernel_rfl
attribute [simp] Tryz.underlying135
@[simp] theorem tsize_136 : tsize Tryz.prog 136 = some 1 := by kernel_rfl
@[simp] theorem tbytes_136 : tbytes Tryz.prog 136 = some 8 := by kernel_rfl
@[simp] theorem tzeroV_136 : tzeroV Tryz.prog 136 = some (.val .nilFunc) := by kernel_rfl
@[simp] theorem tzero_136 : tzero Tryz.prog 136 = some [.val .nilFunc] := by kernel_rfl
attribute [simp] Tryz.underlying136
@[simp] theorem tsize_137 : tsize Tryz.prog 137 = some 1 := by kernel_rfl
@[simp] theorem tbytes_137 : tbytes Tryz.prog 137 = some 8 := by kernel_rfl
@[simp] theorem tzeroV_137 : tzeroV Tryz.prog 137 = some (.val .nilFunc) := by kernel_rfl
@[simp] theorem tzero_137 : tzero Tryz.prog 137 = some [.val .nilFunc] := by kernel_rfl
attribute [simp] Tryz.underlying137
@[simp] theorem tsize_138 : tsize Tryz.prog 138 = some 1 := by kernel_rfl
@[simp] theorem tbytes_138 : tbytes Tryz.prog 138 = some 8 := by kernel_rfl
@[simp] theorem tzeroV_138 : tzeroV Tryz.prog 138 = some (.val .nilFunc) := by kernel_rfl
@[simp] theorem tzero_138 : tzero Tryz.prog 138 = some [.val .nilFunc] := by kernel_rfl
attribute [simp] Tryz.underlying138
@[simp] theorem tsize_139 : tsize Tryz.prog 139 = some 1 := by kernel_rfl
@[simp] theorem tbytes_139 : tbytes Tryz.prog 139 = some 8 := by kernel_rfl
@[simp] theorem tzeroV_139 : tzeroV Tryz.prog 139 = some (.val .nilFunc) := by kernel_rfl
@[simp] theorem tzero_139 : tzero Tryz.prog 139 = some [.val .nilFunc] := by kernel_rfl
attribute [simp] Tryz.underlying139
@[simp] theorem tsize_140 : tsize Tryz.prog 140 = some 1 := by kernel_rfl
@[simp] theorem tbytes_140 : tbytes Tryz.prog 140 = some 4 := by kernel_rfl
@[simp] theorem tzeroV_140 : tzeroV Tryz.prog 140 = some (.val (.int .u32 0)) := by kernel_rfl
@[simp] theorem tzero_140 : tzero Tryz.prog 140 = some [.val (.int .u32 0)] := by kernel_rfl
attribute [simp] Tryz.underlying140
@[simp] theorem tsize_141 : tsize Tryz.prog 141 = some 1 := by kernel_rfl
@[simp] theorem tbytes_141 : tbytes Tryz.prog 141 = some 8 := by kernel_rfl
@[simp] theorem tzeroV_141 : tzeroV Tryz.prog 141 = some (.val .nilFunc) := by kernel_rfl
@[simp] theorem tzero_141 : tzero Tryz.prog 141 = some [.val .nilFunc] := by kernel_rfl
attribute [simp] Tryz.underlying141
@[simp] theorem tsize_142 : tsize Tryz.prog 142 = some 1 := by kernel_rfl
@[simp] theorem tbytes_142 : tbytes Tryz.prog 142 = some 8 := by kernel_rfl
@[simp] theorem tzeroV_142 : tzeroV Tryz.prog 142 = some (.val (.int .u64 0)) := by kernel_rfl
@[simp] theorem tzero_142 : tzero Tryz.prog 142 = some [.val (.int .u64 0)] := by kernel_rfl
attribute [simp] Tryz.underlying142
@[simp] theorem tsize_143 : tsize Tryz.prog 143 = some 1 := by kernel_rfl
@[simp] theorem tbytes_143 : tbytes Tryz.prog 143 = some 8 := by kernel_rfl
@[simp] theorem tzeroV_143 : tzeroV Tryz.prog 143 = some (.val .nilFunc) := by kernel_rfl
@[simp] theorem tzero_143 : tzero Tryz.prog 143 = some [.val .nilFunc] := by kernel_rfl
attribute [simp] Tryz.underlying143
@[simp] theorem tsize_144 : tsize Tryz.prog 144 = some 1 := by kernel_rfl
@[simp] theorem tbytes_144 : tbytes Tryz.prog 144 = some 8 := by kernel_rfl
@[simp] theorem tzeroV_144 : tzeroV Tryz.prog 144 = some (.val .nilFunc) := by kernel_rfl
@[simp] theorem tzero_144 : tzero Tryz.prog 144 = some [.val .nilFunc] := by kernel_rfl
attribute [simp] Tryz.underlying144
@[simp] theorem tsize_145 : tsize Tryz.prog 145 = some 1 := by kernel_rfl
@[simp] theorem tbytes_145 : tbytes Tryz.prog 145 = some 8 := by kernel_rfl
@[simp] theorem tzeroV_145 : tzeroV Tryz.prog 145 = some (.val .nilFunc) := by kernel_rfl
@[simp] theorem tzero_145 : tzero Tryz.prog 145 = some [.val .nilFunc] := by kernel_rfl
attribute [simp] Tryz.underlying145
@[simp] theorem tsize_146 : tsize Tryz.prog 146 = some 1 := by kernel_rfl
@[simp] theorem tbytes_146 : tbytes Tryz.prog 146 = some 8 := by kernel_rfl
@[simp] theorem tzeroV_146 : tzeroV Tryz.prog 146 = some (.val .nilFunc) := by kernel_rfl
@[simp] theorem tzero_146 : tzero Tryz.prog 146 = some [.val .nilFunc] := by kernel_rfl
attribute [simp] Tryz.underlying146
@[simp] theorem tsize_147 : tsize Tryz.prog 147 = some 1 := by kernel_rfl
@[simp] theorem tbytes_147 : tbytes Tryz.prog 147 = some 8 := by kernel_rfl
@[simp] theorem tzeroV_147 : tzeroV Tryz.prog 147 = some (.val .nilFunc) := by kernel_rfl
@[simp] theorem tzero_147 : tzero Tryz.prog 147 = some [.val .nilFunc] := by kernel_rfl
attribute [simp] Tryz.underlying147
@[simp] theorem tsize_148 : tsize Tryz.prog 148 = some 1 := by kernel_rfl
@[simp] theorem tbytes_148 : tbytes Tryz.prog 148 = some 8 := by kernel_rfl
@[simp] theorem tzeroV_148 : tzeroV Tryz.prog 148 = some (.val (.pointer none)) := by kernel_rfl
@[simp] theorem tzero_148 : tzero Tryz.prog 148 = some [.val (.pointer none)] := by kernel_rfl
attribute [simp] Tryz.underlying148
@[simp] theorem tsize_149 : tsize Tryz.prog 149 = some 2 := by kernel_rfl
@[simp] theorem tbytes_149 : tbytes Tryz.prog 149 = some 32 := by kernel_rfl
@[simp] theorem tzeroV_149 : tzeroV Tryz.prog 149 = some (.agg [.val (.pointer none), .val (.slice none 0 0)]) := by kernel_rfl
@[simp] theorem tzero_149 : tzero Tryz.prog 149 = some [.val (.pointer none), .val (.slice none 0 0)] := by kernel_rfl
attribute [simp] Tryz.underlying149
@[simp] theorem tsize_150 : tsize Tryz.prog 150 = some 2 := by kernel_rfl
@[simp] theorem tbytes_150 : tbytes Tryz.prog 150 = some 32 := by kernel_rfl
@[simp] theorem tzeroV_150 : tzeroV Tryz.prog 150 = some (.agg [.val (.pointer none), .val (.slice none 0 0)]) := by kernel_rfl
@[simp] theorem tzero_150 : tzero Tryz.prog 150 = some [.val (.pointer none), .val (.slice none 0 0)] := by kernel_rfl
attribute [simp] Tryz.underlying150
@[simp] theorem tsize_151 : tsize Tryz.prog 151 = some 1 := by kernel_rfl
@[simp] theorem tbytes_151 : tbytes Tryz.prog 151 = some 8 := by kernel_rfl
@[simp] theorem tzeroV_151 : tzeroV Tryz.prog 151 = some (.val .nilFunc) := by kernel_rfl
@[simp] theorem tzero_151 : tzero Tryz.prog 151 = some [.val .nilFunc] := by kernel_rfl
attribute [simp] Tryz.underlying151
@[simp] theorem tsize_152 : tsize Tryz.prog 152 = some 1 := by kernel_rfl
@[simp] theorem tbytes_152 : tbytes Tryz.prog 152 = some 16 := by kernel_rfl
@[simp] theorem tzeroV_152 : tzeroV Tryz.prog 152 = some (.val .nilIface) := by kernel_rfl
@[simp] theorem tzero_152 : tzero Tryz.prog 152 = some [.val .nilIface] := by kernel_rfl
attribute [simp] Tryz.underlying152
@[simp] theorem tsize_153 : tsize Tryz.prog 153 = some 1 := by kernel_rfl
@[simp] theorem tbytes_153 : tbytes Tryz.prog 153 = some 16 := by kernel_rfl
@[simp] theorem tzeroV_153 : tzeroV Tryz.prog 153 = some (.val .nilIface) := by kernel_rfl
@[simp] theorem tzero_153 : tzero Tryz.prog 153 = some [.val .nilIface] := by kernel_rfl
attribute [simp] Tryz.underlying153
@[simp] theorem tsize_155 : tsize Tryz.prog 155 = some 1 := by kernel_rfl
@[simp] theorem tbytes_155 : tbytes Tryz.prog 155 = some 8 := by kernel_rfl
@[simp] theorem tzeroV_155 : tzeroV Tryz.prog 155 = some (.val .nilFunc) := by kernel_rfl
@[simp] theorem tzero_155 : tzero Tryz.prog 155 = some [.val .nilFunc] := by kernel_rfl
attribute [simp] Tryz.underlying155
@[simp] theorem tsize_156 : tsize Tryz.prog 156 = some 1 := by kernel_rfl
@[simp] theorem tbytes_156 : tbytes Tryz.prog 156 = some 8 := by kernel_rfl
@[simp] theorem tzeroV_156 : tzeroV Tryz.prog 156 = some (.val .nilFunc) := by kernel_rfl
@[simp] theorem tzero_156 : tzero Tryz.prog 156 = some [.val .nilFunc] := by kernel_rfl
attribute [simp] Tryz.underlying156
@[simp] theorem tsize_157 : tsize Tryz.prog 157 = some 1 := by kernel_rfl
@[simp] theorem tbytes_157 : tbytes Tryz.prog 157 = some 8 := by kernel_rfl
@[simp] theorem tzeroV_157 : tzeroV Tryz.prog 157 = some (.val .nilFunc) := by kernel_rfl
@[simp] theorem tzero_157 : tzero Tryz.prog 157 = some [.val .nilFunc] := by kernel_rfl
attribute [simp] Tryz.underlying157
@[simp] theorem tsize_158 : tsize Tryz.prog 158 = some 1 := by kernel_rfl
@[simp] theorem tbytes_158 : tbytes Tryz.prog 158 = some 8 := by kernel_rfl
@[simp] theorem tzeroV_158 : tzeroV Tryz.prog 158 = some (.val .nilFunc) := by kernel_rfl
@[simp] theorem tzero_158 : tzero Tryz.prog 158 = some [.val .nilFunc] := by kernel_rfl
attribute [simp] Tryz.underlying158
@[simp] theorem tsize_159 : tsize Tryz.prog 159 = some 1 := by kernel_rfl
@[simp] theorem tbytes_159 : tbytes Tryz.prog 159 = some 8 := by kernel_rfl
@[simp] theorem tzeroV_159 : tzeroV Tryz.prog 159 = some (.val .nilFunc) := by kernel_rfl
@[simp] theorem tzero_159 : tzero Tryz.prog 159 = some [.val .nilFunc] := by kernel_rfl
attribute [simp] Tryz.underlying159
@[simp] theorem tsize_160 : tsize Tryz.prog 160 = some 1 := by kernel_rfl
@[simp] theorem tbytes_160 : tbytes Tryz.prog 160 = some 8 := by kernel_rfl
@[simp] theorem tzeroV_160 : tzeroV Tryz.prog 160 = some (.val .nilFunc) := by kernel_rfl
@[simp] theorem tzero_160 : tzero Tryz.prog 160 = some [.val .nilFunc] := by kernel_rfl
attribute [simp] Tryz.underlying160
@[simp] theorem tsize_161 : tsize Tryz.prog 161 = some 1 := by kernel_rfl
@[simp] theorem tbytes_161 : tbytes Tryz.prog 161 = some 8 := by kernel_rfl
@[simp] theorem tzeroV_161 : tzeroV Tryz.prog 161 = some (.val .nilFunc) := by kernel_rfl
@[simp] theorem tzero_161 : tzero Tryz.prog 161 = some [.val .nilFunc] := by kernel_rfl
attribute [simp] Tryz.underlying161
@[simp] theorem tsize_163 : tsize Tryz.prog 163 = some 1 := by kernel_rfl
@[simp] theorem tbytes_163 : tbytes Tryz.prog 163 = some 8 := by kernel_rfl
@[simp] theorem tzeroV_163 : tzeroV Tryz.prog 163 = some (.val .nilFunc) := by kernel_rfl
@[simp] theorem tzero_163 : tzero Tryz.prog 163 = some [.val .nilFunc] := by kernel_rfl
attribute [simp] Tryz.underlying163
@[simp] theorem tsize_164 : tsize Tryz.prog 164 = some 1 := by kernel_rfl
@[simp] theorem tbytes_164 : tbytes Tryz.prog 164 = some 8 := by kernel_rfl
@[simp] theorem tzeroV_164 : tzeroV Tryz.prog 164 = some (.val .nilFunc) := by kernel_rfl
@[simp] theorem tzero_164 : tzero Tryz.prog 164 = some [.val .nilFunc] := by kernel_rfl
attribute [simp] Tryz.underlying164
@[simp] theorem tsize_165 : tsize Tryz.prog 165 = some 1 := by kernel_rfl
@[simp] theorem tbytes_165 : tbytes Tryz.prog 165 = some 8 := by kernel_rfl
@[simp] theorem tzeroV_165 : tzeroV Tryz.prog 165 = some (.val .nilFunc) := by kernel_rfl
@[simp] theorem tzero_165 : tzero Tryz.prog 165 = some [.val .nilFunc] := by kernel_rfl
attribute [simp] Tryz.underlying165
@[simp] theorem tsize_166 : tsize Tryz.prog 166 = some 1 := by kernel_rfl
@[simp] theorem tbytes_166 : tbytes Tryz.prog 166 = some 8 := by kernel_rfl
@[simp] theorem tzeroV_166 : tzeroV Tryz.prog 166 = some (.val .nilFunc) := by kernel_rfl
@[simp] theorem tzero_166 : tzero Tryz.prog 166 = some [.val .nilFunc] := by kernel_rfl
attribute [simp] Tryz.underlying166
@[simp] theorem tsize_167 : tsize Tryz.prog 167 = some 1 := by kernel_rfl
@[simp] theorem tbytes_167 : tbytes Tryz.prog 167 = some 8 := by kernel_rfl
@[simp] theorem tzeroV_167 : tzeroV Tryz.prog 167 = some (.val .nilFunc) := by kernel_rfl
@[simp] theorem tzero_167 : tzero Tryz.prog 167 = some [.val .nilFunc] := by kernel_rfl
attribute [simp] Tryz.underlying167
@[simp] theorem tsize_168 : tsize Tryz.prog 168 = some 1 := by kernel_rfl
@[simp] theorem tbytes_168 : tbytes Tryz.prog 168 = some 8 := by kernel_rfl
@[simp] theorem tzeroV_168 : tzeroV Tryz.prog 168 = some (.val (.pointer none)) := by kernel_rfl
@[simp] theorem tzero_168 : tzero Tryz.prog 168 = some [.val (.pointer none)] := by kernel_rfl
attribute [simp] Tryz.underlying168
@[simp] theorem tsize_169 : tsize Tryz.prog 169 = some 1 := by kernel_rfl
@[simp] theorem tbytes_169 : tbytes Tryz.prog 169 = some 8 := by kernel_rfl
@[simp] theorem tzeroV_169 : tzeroV Tryz.prog 169 = some (.val .nilFunc) := by kernel_rfl
@[simp] theorem tzero_169 : tzero Tryz.prog 169 = some [.val .nilFunc] := by kernel_rfl
attribute [simp] Tryz.underlying169
@[simp] theorem tsize_170 : tsize Tryz.prog 170 = some 1 := by kernel_rfl
@[simp] theorem tbytes_170 : tbytes Tryz.prog 170 = some 8 := by kernel_rfl
@[simp] theorem tzeroV_170 : tzeroV Tryz.prog 170 = some (.val .nilFunc) := by kernel_rfl
@[simp] theorem tzero_170 : tzero Tryz.prog 170 = some [.val .nilFunc] := by kernel_rfl
attribute [simp] Tryz.underlying170
@[simp] theorem tsize_171 : tsize Tryz.prog 171 = some 1 := by kernel_rfl
@[simp] theorem tbytes_171 : tbytes Tryz.prog 171 = some 8 := by kernel_rfl
@[simp] theorem tzeroV_171 : tzeroV Tryz.prog 171 = some (.val .nilFunc) := by kernel_rfl
@[simp] theorem tzero_171 : tzero Tryz.prog 171 = some [.val .nilFunc] := by kernel_rfl
attribute [simp] Tryz.underlying171
@[simp] theorem tsize_172 : tsize Tryz.prog 172 = some 1 := by kernel_rfl
@[simp] theorem tbytes_172 : tbytes Tryz.prog 172 = some 8 := by kernel_rfl
@[simp] theorem tzeroV_172 : tzeroV Tryz.prog 172 = some (.val (.pointer none)) := by kernel_rfl
@[simp] theorem tzero_172 : tzero Tryz.prog 172 = some [.val (.pointer none)] := by kernel_rfl
attribute [simp] Tryz.underlying172
@[simp] theorem tsize_173 : tsize Tryz.prog 173 = some 1 := by kernel_rfl
@[simp] theorem tbytes_173 : tbytes Tryz.prog 173 = some 8 := by kernel_rfl
@[simp] theorem tzeroV_173 : tzeroV Tryz.prog 173 = some (.val .nilFunc) := by kernel_rfl
@[simp] theorem tzero_173 : tzero Tryz.prog 173 = some [.val .nilFunc] := by kernel_rfl
attribute [simp] Tryz.underlying173
@[simp] theorem tsize_174 : tsize Tryz.prog 174 = some 1 := by kernel_rfl
@[simp] theorem tbytes_174 : tbytes Tryz.prog 174 = some 8 := by kernel_rfl
@[simp] theorem tzeroV_174 : tzeroV Tryz.prog 174 = some (.val .nilFunc) := by kernel_rfl
@[simp] theorem tzero_174 : tzero Tryz.prog 174 = some [.val .nilFunc] := by kernel_rfl
attribute [simp] Tryz.underlying174
@[simp] theorem tsize_175 : tsize Tryz.prog 175 = some 1 := by kernel_rfl
@[simp] theorem tbytes_175 : tbytes Tryz.prog 175 = some 8 := by kernel_rfl
@[simp] theorem tzeroV_175 : tzeroV Tryz.prog 175 = some (.val .nilFunc) := by kernel_rfl
@[simp] theorem tzero_175 : tzero Tryz.prog 175 = some [.val .nilFunc] := by kernel_rfl
attribute [simp] Tryz.underlying175
@[simp] theorem tsize_176 : tsize Tryz.prog 176 = some 1 := by kernel_rfl
@[simp] theorem tbytes_176 : tbytes Tryz.prog 176 = some 8 := by kernel_rfl
@[simp] theorem tzeroV_176 : tzeroV Tryz.prog 176 = some (.val (.int .i64 0)) := by kernel_rfl
@[simp] theorem tzero_176 : tzero Tryz.prog 176 = some [.val (.int .i64 0)] := by kernel_rfl
attribute [simp] Tryz.underlying176
@[simp] theorem tsize_178 : tsize Tryz.prog 178 = some 1 := by kernel_rfl
@[simp] theorem tbytes_178 : tbytes Tryz.prog 178 = some 8 := by kernel_rfl
@[simp] theorem tzeroV_178 : tzeroV Tryz.prog 178 = some (.val .nilFunc) := by kernel_rfl
@[simp] theorem tzero_178 : tzero Tryz.prog 178 = some [.val .nilFunc] := by kernel_rfl
attribute [simp] Tryz.underlying178
@[simp] theorem tsize_179 : tsize Tryz.prog 179 = some 1 := by kernel_rfl
@[simp] theorem tbytes_179 : tbytes Tryz.prog 179 = some 8 := by kernel_rfl
@[simp] theorem tzeroV_179 : tzeroV Tryz.prog 179 = some (.val .nilFunc) := by kernel_rfl
@[simp] theorem tzero_179 : tzero Tryz.prog 179 = some [.val .nilFunc] := by kernel_rfl
attribute [simp] Tryz.underlying179
@[simp] theorem tsize_180 : tsize Tryz.prog 180 = some 1 := by kernel_rfl
@[simp] theorem tbytes_180 : tbytes Tryz.prog 180 = some 8 := by kernel_rfl
@[simp] theorem tzeroV_180 : tzeroV Tryz.prog 180 = some (.val .nilFunc) := by kernel_rfl
@[simp] theorem tzero_180 : tzero Tryz.prog 180 = some [.val .nilFunc] := by kernel_rfl
attribute [simp] Tryz.underlying180
@[simp] theorem tsize_181 : tsize Tryz.prog 181 = some 1 := by kernel_rfl
@[simp] theorem tbytes_181 : tbytes Tryz.prog 181 = some 8 := by kernel_rfl
@[simp] theorem tzeroV_181 : tzeroV Tryz.prog 181 = some (.val .nilFunc) := by kernel_rfl
@[simp] theorem tzero_181 : tzero Tryz.prog 181 = some [.val .nilFunc] := by kernel_rfl
attribute [simp] Tryz.underlying181
@[simp] theorem tsize_183 : tsize Tryz.prog 183 = some 1 := by kernel_rfl
@[simp] theorem tbytes_183 : tbytes Tryz.prog 183 = some 8 := by kernel_rfl
@[simp] theorem tzeroV_183 : tzeroV Tryz.prog 183 = some (.val .nilFunc) := by kernel_rfl
@[simp] theorem tzero_183 : tzero Tryz.prog 183 = some [.val .nilFunc] := by kernel_rfl
attribute [simp] Tryz.underlying183
@[simp] theorem tsize_184 : tsize Tryz.prog 184 = some 1 := by kernel_rfl
@[simp] theorem tbytes_184 : tbytes Tryz.prog 184 = some 8 := by kernel_rfl
@[simp] theorem tzeroV_184 : tzeroV Tryz.prog 184 = some (.val (.int .u64 0)) := by kernel_rfl
@[simp] theorem tzero_184 : tzero Tryz.prog 184 = some [.val (.int .u64 0)] := by kernel_rfl
attribute [simp] Tryz.underlying184
@[simp] theorem tsize_185 : tsize Tryz.prog 185 = some 1 := by kernel_rfl
@[simp] theorem tbytes_185 : tbytes Tryz.prog 185 = some 8 := by kernel_rfl
@[simp] theorem tzeroV_185 : tzeroV Tryz.prog 185 = some (.val .nilFunc) := by kernel_rfl
@[simp] theorem tzero_185 : tzero Tryz.prog 185 = some [.val .nilFunc] := by kernel_rfl
attribute [simp] Tryz.underlying185
@[simp] theorem tsize_186 : tsize Tryz.prog 186 = some 1 := by kernel_rfl
@[simp] theorem tbytes_186 : tbytes Tryz.prog 186 = some 8 := by kernel_rfl
@[simp] theorem tzeroV_186 : tzeroV Tryz.prog 186 = some (.val .nilFunc) := by kernel_rfl
@[simp] theorem tzero_186 : tzero Tryz.prog 186 = some [.val .nilFunc] := by kernel_rfl
attribute [simp] Tryz.underlying186
@[simp] theorem tsize_187 : tsize Tryz.prog 187 = some 1 := by kernel_rfl
@[simp] theorem tbytes_187 : tbytes Tryz.prog 187 = some 8 := by kernel_rfl
@[simp] theorem tzeroV_187 : tzeroV Tryz.prog 187 = some (.val .nilFunc) := by kernel_rfl
@[simp] theorem tzero_187 : tzero Tryz.prog 187 = some [.val .nilFunc] := by kernel_rfl
attribute [simp] Tryz.underlying187
@[simp] theorem tsize_188 : tsize Tryz.prog 188 = some 1 := by kernel_rfl
@[simp] theorem tbytes_188 : tbytes Tryz.prog 188 = some 8 := by kernel_rfl
@[simp] theorem tzeroV_188 : tzeroV Tryz.prog 188 = some (.val (.pointer none)) := by kernel_rfl
@[simp] theorem tzero_188 : tzero Tryz.prog 188 = some [.val (.pointer none)] := by kernel_rfl
attribute [simp] Tryz.underlying188
@[simp] theorem tsize_189 : tsize Tryz.prog 189 = some 1 := by kernel_rfl
@[simp] theorem tbytes_189 : tbytes Tryz.prog 189 = some 8 := by kernel_rfl
@[simp] theorem tzeroV_189 : tzeroV Tryz.prog 189 = some (.val .nilFunc) := by kernel_rfl
@[simp] theorem tzero_189 : tzero Tryz.prog 189 = some [.val .nilFunc] := by kernel_rfl
attribute [simp] Tryz.underlying189
@[simp] theorem tsize_190 : tsize Tryz.prog 190 = some 1 := by kernel_rfl
@[simp] theorem tbytes_190 : tbytes Tryz.prog 190 = some 8 := by kernel_rfl
@[simp] theorem tzeroV_190 : tzeroV Tryz.prog 190 = some (.val (.pointer none)) := by kernel_rfl
@[simp] theorem tzero_190 : tzero Tryz.prog 190 = some [.val (.pointer none)] := by kernel_rfl
attribute [simp] Tryz.underlying190
@[simp] theorem tsize_191 : tsize Tryz.prog 191 = some 1 := by kernel_rfl
@[simp] theorem tbytes_191 : tbytes Tryz.prog 191 = some 8 := by kernel_rfl
@[simp] theorem tzeroV_191 : tzeroV Tryz.prog 191 = some (.val .nilFunc) := by kernel_rfl
@[simp] theorem tzero_191 : tzero Tryz.prog 191 = some [.val .nilFunc] := by kernel_rfl
attribute [simp] Tryz.underlying191
@[simp] theorem tsize_192 : tsize Tryz.prog 192 = some 4 := by kernel_rfl
@[simp] theorem tbytes_192 : tbytes Tryz.prog 192 = some 40 := by kernel_rfl
@[simp] theorem tzeroV_192 : tzeroV Tryz.prog 192 = some (.agg [.val (.pointer none), .val (.pointer none), .val (.pointer none), .val (.string ⟨#[]⟩)]) := by kernel_rfl
@[simp] theorem tzero_192 : tzero Tryz.prog 192 = some [.val (.pointer none), .val (.pointer none), .val (.pointer none), .val (.string ⟨#[]⟩)] := by kernel_rfl
attribute [simp] Tryz.underlying192
@[simp] theorem tsize_193 : tsize Tryz.prog 193 = some 4 := by kernel_rfl
@[simp] theorem tbytes_193 : tbytes Tryz.prog 193 = some 40 := by kernel_rfl
@[simp] theorem tzeroV_193 : tzeroV Tryz.prog 193 = some (.agg [.val (.pointer none), .val (.pointer none), .val (.pointer none), .val (.string ⟨#[]⟩)]) := by kernel_rfl
@[simp] theorem tzero_193 : tzero Tryz.prog 193 = some [.val (.pointer none), .val (.pointer none), .val (.pointer none), .val (.string ⟨#[]⟩)] := by kernel_rfl
attribute [simp] Tryz.underlying193
@[simp] theorem tsize_194 : tsize Tryz.prog 194 = some 0 := by kernel_rfl
@[simp] theorem tbytes_194 : tbytes Tryz.prog 194 = some 0 := by kernel_rfl
@[simp] theorem tzeroV_194 : tzeroV Tryz.prog 194 = some (.agg []) := by kernel_rfl
@[simp] theorem tzero_194 : tzero Tryz.prog 194 = some [] := by kernel_rfl
attribute [simp] Tryz.underlying194
@[simp] theorem tsize_195 : tsize Tryz.prog 195 = some 0 := by kernel_rfl
@[simp] theorem tbytes_195 : tbytes Tryz.prog 195 = some 0 := by kernel_rfl
@[simp] theorem tzeroV_195 : tzeroV Tryz.prog 195 = some (.agg []) := by kernel_rfl
@[simp] theorem tzero_195 : tzero Tryz.prog 195 = some [] := by kernel_rfl
attribute [simp] Tryz.underlying195
@[simp] theorem tsize_196 : tsize Tryz.prog 196 = some 0 := by kernel_rfl
@[simp] theorem tbytes_196 : tbytes Tryz.prog 196 = some 0 := by kernel_rfl
@[simp] theorem tzeroV_196 : tzeroV Tryz.prog 196 = some (.agg []) := by kernel_rfl
@[simp] theorem tzero_196 : tzero Tryz.prog 196 = some [] := by kernel_rfl
attribute [simp] Tryz.underlying196
@[simp] theorem tsize_197 : tsize Tryz.prog 197 = some 1 := by kernel_rfl
@[simp] theorem tbytes_197 : tbytes Tryz.prog 197 = some 1 := by kernel_rfl
@[simp] theorem tzeroV_197 : tzeroV Tryz.prog 197 = some (.val (.int .u8 0)) := by kernel_rfl
@[simp] theorem tzero_197 : tzero Tryz.prog 197 = some [.val (.int .u8 0)] := by kernel_rfl
attribute [simp] Tryz.underlying197
@[simp] theorem tsize_198 : tsize Tryz.prog 198 = some 1 := by kernel_rfl
@[simp] theorem tbytes_198 : tbytes Tryz.prog 198 = some 1 := by kernel_rfl
@[simp] theorem tzeroV_198 : tzeroV Tryz.prog 198 = some (.val (.int .u8 0)) := by kernel_rfl
@[simp] theorem tzero_198 : tzero Tryz.prog 198 = some [.val (.int .u8 0)] := by kernel_rfl
attribute [simp] Tryz.underlying198
@[simp] theorem tsize_199 : tsize Tryz.prog 199 = some 1 := by kernel_rfl
@[simp] theorem tbytes_199 : tbytes Tryz.prog 199 = some 8 := by kernel_rfl
@[simp] theorem tzeroV_199 : tzeroV Tryz.prog 199 = some (.val .nilFunc) := by kernel_rfl
@[simp] theorem tzero_199 : tzero Tryz.prog 199 = some [.val .nilFunc] := by kernel_rfl
attribute [simp] Tryz.underlying199
@[simp] theorem tsize_200 : tsize Tryz.prog 200 = some 1 := by kernel_rfl
@[simp] theorem tbytes_200 : tbytes Tryz.prog 200 = some 4 := by kernel_rfl
@[simp] theorem tzeroV_200 : tzeroV Tryz.prog 200 = some (.val (.int .i32 0)) := by kernel_rfl
@[simp] theorem tzero_200 : tzero Tryz.prog 200 = some [.val (.int .i32 0)] := by kernel_rfl
attribute [simp] Tryz.underlying200
@[simp] theorem tsize_201 : tsize Tryz.prog 201 = some 1 := by kernel_rfl
@[simp] theorem tbytes_201 : tbytes Tryz.prog 201 = some 4 := by kernel_rfl
@[simp] theorem tzeroV_201 : tzeroV Tryz.prog 201 = some (.val (.int .i32 0)) := by kernel_rfl
@[simp] theorem tzero_201 : tzero Tryz.prog 201 = some [.val (.int .i32 0)] := by kernel_rfl
attribute [simp] Tryz.underlying201
@[simp] theorem tsize_202 : tsize Tryz.prog 202 = some 11 := by kernel_rfl
@[simp] theorem tbytes_202 : tbytes Tryz.prog 202 = some 48 := by kernel_rfl
@[simp] theorem tzeroV_202 : tzeroV Tryz.prog 202 = some (.agg [.val (.int .u64 0), .val (.int .u64 0), .val (.int .u32 0), .val (.int .u8 0), .val (.int .u8 0), .val (.int .u8 0), .val (.int .u8 0), .val .nilFunc, .val (.pointer none), .val (.int .i32 0), .val (.int .i32 0)]) := by kernel_rfl
@[simp] theorem tzero_202 : tzero Tryz.prog 202 = some [.val (.int .u64 0), .val (.int .u64 0), .val (.int .u32 0), .val (.int .u8 0), .val (.int .u8 0), .val (.int .u8 0), .val (.int .u8 0), .val .nilFunc, .val (.pointer none), .val (.int .i32 0), .val (.int .i32 0)] := by kernel_rfl
attribute [simp] Tryz.underlying202
@[simp] theorem tsize_203 : tsize Tryz.prog 203 = some 11 := by kernel_rfl
@[simp] theorem tbytes_203 : tbytes Tryz.prog 203 = some 48 := by kernel_rfl
@[simp] theorem tzeroV_203 : tzeroV Tryz.prog 203 = some (.agg [.val (.int .u64 0), .val (.int .u64 0), .val (.int .u32 0), .val (.int .u8 0), .val (.int .u8 0), .val (.int .u8 0), .val (.int .u8 0), .val .nilFunc, .val (.pointer none), .val (.int .i32 0), .val (.int .i32 0)]) := by kernel_rfl
@[simp] theorem tzero_203 : tzero Tryz.prog 203 = some [.val (.int .u64 0), .val (.int .u64 0), .val (.int .u32 0), .val (.int .u8 0), .val (.int .u8 0), .val (.int .u8 0), .val (.int .u8 0), .val .nilFunc, .val (.pointer none), .val (.int .i32 0), .val (.int .i32 0)] := by kernel_rfl
attribute [simp] Tryz.underlying203
@[simp] theorem enters_2 : entersB Tryz.prog 2 = true := by kernel_rfl
@[simp] theorem enters_3 : entersB Tryz.prog 3 = true := by kernel_rfl
@[simp] theorem enters_4 : entersB Tryz.prog 4 = true := by kernel_rfl
@[simp] theorem enters_5 : entersB Tryz.prog 5 = true := by kernel_rfl
@[simp] theorem enters_6 : entersB Tryz.prog 6 = true := by kernel_rfl
@[simp] theorem enters_7 : entersB Tryz.prog 7 = true := by kernel_rfl
@[simp] theorem enters_8 : entersB Tryz.prog 8 = true := by kernel_rfl
@[simp] theorem enters_9 : entersB Tryz.prog 9 = true := by kernel_rfl
@[simp] theorem enters_10 : entersB Tryz.prog 10 = true := by kernel_rfl
@[simp] theorem enters_11 : entersB Tryz.prog 11 = true := by kernel_rfl
@[simp] theorem enters_12 : entersB Tryz.prog 12 = true := by kernel_rfl
@[simp] theorem enters_13 : entersB Tryz.prog 13 = true := by kernel_rfl
@[simp] theorem enters_14 : entersB Tryz.prog 14 = true := by kernel_rfl
@[simp] theorem enters_15 : entersB Tryz.prog 15 = true := by kernel_rfl
@[simp] theorem enters_16 : entersB Tryz.prog 16 = true := by kernel_rfl
@[simp] theorem enters_17 : entersB Tryz.prog 17 = true := by kernel_rfl
@[simp] theorem enters_18 : entersB Tryz.prog 18 = true := by kernel_rfl
@[simp] theorem enters_19 : entersB Tryz.prog 19 = true := by kernel_rfl
@[simp] theorem enters_20 : entersB Tryz.prog 20 = true := by kernel_rfl
@[simp] theorem enters_21 : entersB Tryz.prog 21 = true := by kernel_rfl
@[simp] theorem enters_22 : entersB Tryz.prog 22 = true := by kernel_rfl
@[simp] theorem enters_23 : entersB Tryz.prog 23 = true := by kernel_rfl
@[simp] theorem enters_24 : entersB Tryz.prog 24 = true := by kernel_rfl
@[simp] theorem enters_25 : entersB Tryz.prog 25 = true := by kernel_rfl
@[simp] theorem enters_26 : entersB Tryz.prog 26 = true := by kernel_rfl
@[simp] theorem enters_27 : entersB Tryz.prog 27 = true := by kernel_rfl
@[simp] theorem enters_28 : entersB Tryz.prog 28 = true := by kernel_rfl
@[simp] theorem enters_29 : entersB Tryz.prog 29 = true := by kernel_rfl
@[simp] theorem enters_30 : entersB Tryz.prog 30 = true := by kernel_rfl
@[simp] theorem enters_31 : entersB Tryz.prog 31 = true := by kernel_rfl
@[simp] theorem enters_32 : entersB Tryz.prog 32 = true := by kernel_rfl
@[simp] theorem enters_33 : entersB Tryz.prog 33 = true := by kernel_rfl
@[simp] theorem enters_34 : entersB Tryz.prog 34 = true := by kernel_rfl
@[simp] theorem enters_35 : entersB Tryz.prog 35 = true := by kernel_rfl
@[simp] theorem enters_36 : entersB Tryz.prog 36 = true := by kernel_rfl
@[simp] theorem enters_37 : entersB Tryz.prog 37 = true := by kernel_rfl
@[simp] theorem enters_38 : entersB Tryz.prog 38 = true := by kernel_rfl
@[simp] theorem enters_39 : entersB Tryz.prog 39 = true := by kernel_rfl
@[simp] theorem enters_40 : entersB Tryz.prog 40 = true := by kernel_rfl
@[simp] theorem enters_41 : entersB Tryz.prog 41 = true := by kernel_rfl
@[simp] theorem enters_42 : entersB Tryz.prog 42 = true := by kernel_rfl
@[simp] theorem enters_43 : entersB Tryz.prog 43 = true := by kernel_rfl
@[simp] theorem enters_44 : entersB Tryz.prog 44 = true := by kernel_rfl
@[simp] theorem enters_45 : entersB Tryz.prog 45 = true := by kernel_rfl
@[simp] theorem enters_46 : entersB Tryz.prog 46 = true := by kernel_rfl
@[simp] theorem enters_47 : entersB Tryz.prog 47 = true := by kernel_rfl
@[simp] theorem enters_48 : entersB Tryz.prog 48 = true := by kernel_rfl
@[simp] theorem enters_49 : entersB Tryz.prog 49 = true := by kernel_rfl
@[simp] theorem enters_50 : entersB Tryz.prog 50 = true := by kernel_rfl
@[simp] theorem enters_51 : entersB Tryz.prog 51 = true := by kernel_rfl
@[simp] theorem enters_52 : entersB Tryz.prog 52 = true := by kernel_rfl
@[simp] theorem enters_53 : entersB Tryz.prog 53 = true := by kernel_rfl
@[simp] theorem enters_54 : entersB Tryz.prog 54 = true := by kernel_rfl
@[simp] theorem enters_55 : entersB Tryz.prog 55 = true := by kernel_rfl
@[simp] theorem enters_56 : entersB Tryz.prog 56 = true := by kernel_rfl
@[simp] theorem enters_57 : entersB Tryz.prog 57 = true := by kernel_rfl
@[simp] theorem enters_58 : entersB Tryz.prog 58 = true := by kernel_rfl
@[simp] theorem enters_59 : entersB Tryz.prog 59 = true := by kernel_rfl
@[simp] theorem enters_60 : entersB Tryz.prog 60 = true := by kernel_rfl
@[simp] theorem enters_61 : entersB Tryz.prog 61 = true := by kernel_rfl
@[simp] theorem enters_62 : entersB Tryz.prog 62 = true := by kernel_rfl
@[simp] theorem enters_63 : entersB Tryz.prog 63 = true := by kernel_rfl
@[simp] theorem enters_64 : entersB Tryz.prog 64 = true := by kernel_rfl
@[simp] theorem enters_65 : entersB Tryz.prog 65 = true := by kernel_rfl
@[simp] theorem enters_66 : entersB Tryz.prog 66 = true := by kernel_rfl
@[simp] theorem enters_67 : entersB Tryz.prog 67 = true := by kernel_rfl
@[simp] theorem enters_68 : entersB Tryz.prog 68 = true := by kernel_rfl
@[simp] theorem enters_69 : entersB Tryz.prog 69 = true := by kernel_rfl
@[simp] theorem enters_70 : entersB Tryz.prog 70 = true := by kernel_rfl
@[simp] theorem enters_71 : entersB Tryz.prog 71 = true := by kernel_rfl
@[simp] theorem enters_72 : entersB Tryz.prog 72 = true := by kernel_rfl
@[simp] theorem enters_73 : entersB Tryz.prog 73 = true := by kernel_rfl
@[simp] theorem enters_74 : entersB Tryz.prog 74 = true := by kernel_rfl
@[simp] theorem enters_75 : entersB Tryz.prog 75 = true := by kernel_rfl
@[simp] theorem enters_76 : entersB Tryz.prog 76 = true := by kernel_rfl
@[simp] theorem enters_77 : entersB Tryz.prog 77 = true := by kernel_rfl
@[simp] theorem enters_78 : entersB Tryz.prog 78 = true := by kernel_rfl
@[simp] theorem enters_79 : entersB Tryz.prog 79 = true := by kernel_rfl
@[simp] theorem enters_80 : entersB Tryz.prog 80 = true := by kernel_rfl
@[simp] theorem enters_81 : entersB Tryz.prog 81 = true := by kernel_rfl
@[simp] theorem enters_82 : entersB Tryz.prog 82 = true := by kernel_rfl
@[simp] theorem enters_83 : entersB Tryz.prog 83 = true := by kernel_rfl
@[simp] theorem enters_84 : entersB Tryz.prog 84 = true := by kernel_rfl
@[simp] theorem enters_85 : entersB Tryz.prog 85 = true := by kernel_rfl
@[simp] theorem enters_86 : entersB Tryz.prog 86 = true := by kernel_rfl
@[simp] theorem enters_87 : entersB Tryz.prog 87 = true := by kernel_rfl
@[simp] theorem enters_88 : entersB Tryz.prog 88 = true := by kernel_rfl
@[simp] theorem enters_89 : entersB Tryz.prog 89 = true := by kernel_rfl
@[simp] theorem enters_90 : entersB Tryz.prog 90 = true := by kernel_rfl
@[simp] theorem enters_91 : entersB Tryz.prog 91 = true := by kernel_rfl
@[simp] theorem enters_92 : entersB Tryz.prog 92 = true := by kernel_rfl
@[simp] theorem enters_93 : entersB Tryz.prog 93 = true := by kernel_rfl
@[simp] theorem enters_94 : entersB Tryz.prog 94 = true := by kernel_rfl
@[simp] theorem enters_95 : entersB Tryz.prog 95 = true := by kernel_rfl
@[simp] theorem enters_96 : entersB Tryz.prog 96 = true := by kernel_rfl
@[simp] theorem enters_97 : entersB Tryz.prog 97 = true := by kernel_rfl
@[simp] theorem enters_98 : entersB Tryz.prog 98 = true := by kernel_rfl
@[simp] theorem enters_99 : entersB Tryz.prog 99 = true := by kernel_rfl
@[simp] theorem enters_100 : entersB Tryz.prog 100 = true := by kernel_rfl
@[simp] theorem enters_101 : entersB Tryz.prog 101 = true := by kernel_rfl
@[simp] theorem enters_102 : entersB Tryz.prog 102 = true := by kernel_rfl
@[simp] theorem enters_103 : entersB Tryz.prog 103 = true := by kernel_rfl
@[simp] theorem enters_104 : entersB Tryz.prog 104 = true := by kernel_rfl
@[simp] theorem enters_105 : entersB Tryz.prog 105 = true := by kernel_rfl
@[simp] theorem enters_106 : entersB Tryz.prog 106 = true := by kernel_rfl
@[simp] theorem enters_107 : entersB Tryz.prog 107 = true := by kernel_rfl
@[simp] theorem enters_108 : entersB Tryz.prog 108 = true := by kernel_rfl
@[simp] theorem enters_109 : entersB Tryz.prog 109 = true := by kernel_rfl
@[simp] theorem enters_110 : entersB Tryz.prog 110 = true := by kernel_rfl
@[simp] theorem enters_111 : entersB Tryz.prog 111 = true := by kernel_rfl
@[simp] theorem enters_112 : entersB Tryz.prog 112 = true := by kernel_rfl
@[simp] theorem enters_113 : entersB Tryz.prog 113 = true := by kernel_rfl
@[simp] theorem enters_114 : entersB Tryz.prog 114 = true := by kernel_rfl
@[simp] theorem enters_115 : entersB Tryz.prog 115 = true := by kernel_rfl
@[simp] theorem enters_116 : entersB Tryz.prog 116 = true := by kernel_rfl
@[simp] theorem enters_117 : entersB Tryz.prog 117 = true := by kernel_rfl
@[simp] theorem enters_118 : entersB Tryz.prog 118 = true := by kernel_rfl
@[simp] theorem enters_119 : entersB Tryz.prog 119 = true := by kernel_rfl
@[simp] theorem enters_120 : entersB Tryz.prog 120 = true := by kernel_rfl
@[simp] theorem enters_121 : entersB Tryz.prog 121 = true := by kernel_rfl
@[simp] theorem enters_122 : entersB Tryz.prog 122 = true := by kernel_rfl
@[simp] theorem enters_123 : entersB Tryz.prog 123 = true := by kernel_rfl
@[simp] theorem enters_124 : entersB Tryz.prog 124 = true := by kernel_rfl
@[simp] theorem enters_125 : entersB Tryz.prog 125 = true := by kernel_rfl
@[simp] theorem enters_126 : entersB Tryz.prog 126 = true := by kernel_rfl
@[simp] theorem enters_127 : entersB Tryz.prog 127 = true := by kernel_rfl
@[simp] theorem enters_128 : entersB Tryz.prog 128 = true := by kernel_rfl
@[simp] theorem enters_129 : entersB Tryz.prog 129 = true := by kernel_rfl
@[simp] theorem enters_130 : entersB Tryz.prog 130 = true := by kernel_rfl
@[simp] theorem enters_131 : entersB Tryz.prog 131 = true := by kernel_rfl
@[simp] theorem enters_132 : entersB Tryz.prog 132 = true := by kernel_rfl
@[simp] theorem enters_133 : entersB Tryz.prog 133 = true := by kernel_rfl
@[simp] theorem enters_134 : entersB Tryz.prog 134 = true := by kernel_rfl
@[simp] theorem enters_135 : entersB Tryz.prog 135 = true := by kernel_rfl
@[simp] theorem enters_136 : entersB Tryz.prog 136 = true := by kernel_rfl
@[simp] theorem enters_137 : entersB Tryz.prog 137 = true := by kernel_rfl
@[simp] theorem enters_138 : entersB Tryz.prog 138 = true := by kernel_rfl
@[simp] theorem enters_139 : entersB Tryz.prog 139 = true := by kernel_rfl
@[simp] theorem enters_142 : entersB Tryz.prog 142 = true := by kernel_rfl
@[simp] theorem enters_143 : entersB Tryz.prog 143 = true := by kernel_rfl
@[simp] theorem enters_144 : entersB Tryz.prog 144 = true := by kernel_rfl
@[simp] theorem enters_145 : entersB Tryz.prog 145 = true := by kernel_rfl
@[simp] theorem enters_146 : entersB Tryz.prog 146 = true := by kernel_rfl
@[simp] theorem enters_147 : entersB Tryz.prog 147 = true := by kernel_rfl
@[simp] theorem enters_148 : entersB Tryz.prog 148 = true := by kernel_rfl
@[simp] theorem enters_149 : entersB Tryz.prog 149 = true := by kernel_rfl
@[simp] theorem enters_150 : entersB Tryz.prog 150 = true := by kernel_rfl
@[simp] theorem enters_151 : entersB Tryz.prog 151 = true := by kernel_rfl
@[simp] theorem enters_152 : entersB Tryz.prog 152 = true := by kernel_rfl
@[simp] theorem enters_153 : entersB Tryz.prog 153 = true := by kernel_rfl
@[simp] theorem enters_154 : entersB Tryz.prog 154 = true := by kernel_rfl
@[simp] theorem enters_155 : entersB Tryz.prog 155 = true := by kernel_rfl
@[simp] theorem enters_156 : entersB Tryz.prog 156 = true := by kernel_rfl
@[simp] theorem enters_157 : entersB Tryz.prog 157 = true := by kernel_rfl
@[simp] theorem enters_158 : entersB Tryz.prog 158 = true := by kernel_rfl
@[simp] theorem enters_159 : entersB Tryz.prog 159 = true := by kernel_rfl
@[simp] theorem follows_mixed : Tryz.prog.follows .mixedOrders = true := by kernel_rfl
end Go.Proofs.YtbigcojlpcchiaaGreat.Sy
