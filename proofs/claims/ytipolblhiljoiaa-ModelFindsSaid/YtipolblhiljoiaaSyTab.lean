/- Sy: facts about the types and the functions of the program, for simp. -/
import Derived.Test.YtipolblhiljoiaaSyTwo
namespace Go.Proofs.Ytipolblhiljoiaa.Sy
open Go Go.RowKit
@[simp] theorem tsize_1 : tsize Try.prog 1 = some 1 := by kernel_rfl
@[simp] theorem tbytes_1 : tbytes Try.prog 1 = some 8 := by kernel_rfl
@[simp] theorem tzeroV_1 : tzeroV Try.prog 1 = some (.val .nilFunc) := by kernel_rfl
@[simp] theorem tzero_1 : tzero Try.prog 1 = some [.val .nilFunc] := by kernel_rfl
attribute [simp] Try.underlying1
@[simp] theorem tsize_2 : tsize Try.prog 2 = some 1 := by kernel_rfl
@[simp] theorem tbytes_2 : tbytes Try.prog 2 = some 8 := by kernel_rfl
@[simp] theorem tzeroV_2 : tzeroV Try.prog 2 = some (.val (.int .i64 0)) := by kernel_rfl
@[simp] theorem tzero_2 : tzero Try.prog 2 = some [.val (.int .i64 0)] := by kernel_rfl
attribute [simp] Try.underlying2
@[simp] theorem tsize_3 : tsize Try.prog 3 = some 1 := by kernel_rfl
@[simp] theorem tbytes_3 : tbytes Try.prog 3 = some 8 := by kernel_rfl
@[simp] theorem tzeroV_3 : tzeroV Try.prog 3 = some (.val (.int .i64 0)) := by kernel_rfl
@[simp] theorem tzero_3 : tzero Try.prog 3 = some [.val (.int .i64 0)] := by kernel_rfl
attribute [simp] Try.underlying3
@[simp] theorem tsize_4 : tsize Try.prog 4 = some 1 := by kernel_rfl
@[simp] theorem tbytes_4 : tbytes Try.prog 4 = some 1 := by kernel_rfl
@[simp] theorem tzeroV_4 : tzeroV Try.prog 4 = some (.val (.bool false)) := by kernel_rfl
@[simp] theorem tzero_4 : tzero Try.prog 4 = some [.val (.bool false)] := by kernel_rfl
attribute [simp] Try.underlying4
@[simp] theorem tsize_5 : tsize Try.prog 5 = some 1 := by kernel_rfl
@[simp] theorem tbytes_5 : tbytes Try.prog 5 = some 1 := by kernel_rfl
@[simp] theorem tzeroV_5 : tzeroV Try.prog 5 = some (.val (.int .u8 0)) := by kernel_rfl
@[simp] theorem tzero_5 : tzero Try.prog 5 = some [.val (.int .u8 0)] := by kernel_rfl
attribute [simp] Try.underlying5
@[simp] theorem tsize_6 : tsize Try.prog 6 = some 1 := by kernel_rfl
@[simp] theorem tbytes_6 : tbytes Try.prog 6 = some 1 := by kernel_rfl
@[simp] theorem tzeroV_6 : tzeroV Try.prog 6 = some (.val (.int .u8 0)) := by kernel_rfl
@[simp] theorem tzero_6 : tzero Try.prog 6 = some [.val (.int .u8 0)] := by kernel_rfl
attribute [simp] Try.underlying6
@[simp] theorem tsize_7 : tsize Try.prog 7 = some 4 := by kernel_rfl
@[simp] theorem tbytes_7 : tbytes Try.prog 7 = some 24 := by kernel_rfl
@[simp] theorem tzeroV_7 : tzeroV Try.prog 7 = some (.agg [.val (.int .i64 0), .val (.int .i64 0), .val (.bool false), .val (.int .u8 0)]) := by kernel_rfl
@[simp] theorem tzero_7 : tzero Try.prog 7 = some [.val (.int .i64 0), .val (.int .i64 0), .val (.bool false), .val (.int .u8 0)] := by kernel_rfl
attribute [simp] Try.underlying7
@[simp] theorem tsize_8 : tsize Try.prog 8 = some 4 := by kernel_rfl
@[simp] theorem tbytes_8 : tbytes Try.prog 8 = some 24 := by kernel_rfl
@[simp] theorem tzeroV_8 : tzeroV Try.prog 8 = some (.agg [.val (.int .i64 0), .val (.int .i64 0), .val (.bool false), .val (.int .u8 0)]) := by kernel_rfl
@[simp] theorem tzero_8 : tzero Try.prog 8 = some [.val (.int .i64 0), .val (.int .i64 0), .val (.bool false), .val (.int .u8 0)] := by kernel_rfl
attribute [simp] Try.underlying8
@[simp] theorem tsize_9 : tsize Try.prog 9 = some 1 := by kernel_rfl
@[simp] theorem tbytes_9 : tbytes Try.prog 9 = some 16 := by kernel_rfl
@[simp] theorem tzeroV_9 : tzeroV Try.prog 9 = some (.val (.string ⟨#[]⟩)) := by kernel_rfl
@[simp] theorem tzero_9 : tzero Try.prog 9 = some [.val (.string ⟨#[]⟩)] := by kernel_rfl
attribute [simp] Try.underlying9
@[simp] theorem tsize_10 : tsize Try.prog 10 = some 1 := by kernel_rfl
@[simp] theorem tbytes_10 : tbytes Try.prog 10 = some 16 := by kernel_rfl
@[simp] theorem tzeroV_10 : tzeroV Try.prog 10 = some (.val (.string ⟨#[]⟩)) := by kernel_rfl
@[simp] theorem tzero_10 : tzero Try.prog 10 = some [.val (.string ⟨#[]⟩)] := by kernel_rfl
attribute [simp] Try.underlying10
@[simp] theorem tsize_11 : tsize Try.prog 11 = some 1 := by kernel_rfl
@[simp] theorem tbytes_11 : tbytes Try.prog 11 = some 16 := by kernel_rfl
@[simp] theorem tzeroV_11 : tzeroV Try.prog 11 = some (.val (.string ⟨#[]⟩)) := by kernel_rfl
@[simp] theorem tzero_11 : tzero Try.prog 11 = some [.val (.string ⟨#[]⟩)] := by kernel_rfl
attribute [simp] Try.underlying11
@[simp] theorem tsize_12 : tsize Try.prog 12 = some 1 := by kernel_rfl
@[simp] theorem tbytes_12 : tbytes Try.prog 12 = some 8 := by kernel_rfl
@[simp] theorem tzeroV_12 : tzeroV Try.prog 12 = some (.val (.int .u64 0)) := by kernel_rfl
@[simp] theorem tzero_12 : tzero Try.prog 12 = some [.val (.int .u64 0)] := by kernel_rfl
attribute [simp] Try.underlying12
@[simp] theorem tsize_13 : tsize Try.prog 13 = some 2 := by kernel_rfl
@[simp] theorem tbytes_13 : tbytes Try.prog 13 = some 24 := by kernel_rfl
@[simp] theorem tzeroV_13 : tzeroV Try.prog 13 = some (.agg [.val (.string ⟨#[]⟩), .val (.int .u64 0)]) := by kernel_rfl
@[simp] theorem tzero_13 : tzero Try.prog 13 = some [.val (.string ⟨#[]⟩), .val (.int .u64 0)] := by kernel_rfl
attribute [simp] Try.underlying13
@[simp] theorem tsize_14 : tsize Try.prog 14 = some 2 := by kernel_rfl
@[simp] theorem tbytes_14 : tbytes Try.prog 14 = some 24 := by kernel_rfl
@[simp] theorem tzeroV_14 : tzeroV Try.prog 14 = some (.agg [.val (.string ⟨#[]⟩), .val (.int .u64 0)]) := by kernel_rfl
@[simp] theorem tzero_14 : tzero Try.prog 14 = some [.val (.string ⟨#[]⟩), .val (.int .u64 0)] := by kernel_rfl
attribute [simp] Try.underlying14
@[simp] theorem tsize_15 : tsize Try.prog 15 = some 1 := by kernel_rfl
@[simp] theorem tbytes_15 : tbytes Try.prog 15 = some 8 := by kernel_rfl
@[simp] theorem tzeroV_15 : tzeroV Try.prog 15 = some (.val (.pointer none)) := by kernel_rfl
@[simp] theorem tzero_15 : tzero Try.prog 15 = some [.val (.pointer none)] := by kernel_rfl
attribute [simp] Try.underlying15
@[simp] theorem tsize_16 : tsize Try.prog 16 = some 1 := by kernel_rfl
@[simp] theorem tbytes_16 : tbytes Try.prog 16 = some 8 := by kernel_rfl
@[simp] theorem tzeroV_16 : tzeroV Try.prog 16 = some (.val (.pointer none)) := by kernel_rfl
@[simp] theorem tzero_16 : tzero Try.prog 16 = some [.val (.pointer none)] := by kernel_rfl
attribute [simp] Try.underlying16
@[simp] theorem tsize_17 : tsize Try.prog 17 = some 1 := by kernel_rfl
@[simp] theorem tbytes_17 : tbytes Try.prog 17 = some 8 := by kernel_rfl
@[simp] theorem tzeroV_17 : tzeroV Try.prog 17 = some (.val (.pointer none)) := by kernel_rfl
@[simp] theorem tzero_17 : tzero Try.prog 17 = some [.val (.pointer none)] := by kernel_rfl
attribute [simp] Try.underlying17
@[simp] theorem tsize_18 : tsize Try.prog 18 = some 1 := by kernel_rfl
@[simp] theorem tbytes_18 : tbytes Try.prog 18 = some 8 := by kernel_rfl
@[simp] theorem tzeroV_18 : tzeroV Try.prog 18 = some (.agg [.val (.pointer none)]) := by kernel_rfl
@[simp] theorem tzero_18 : tzero Try.prog 18 = some [.val (.pointer none)] := by kernel_rfl
attribute [simp] Try.underlying18
@[simp] theorem tsize_19 : tsize Try.prog 19 = some 1 := by kernel_rfl
@[simp] theorem tbytes_19 : tbytes Try.prog 19 = some 8 := by kernel_rfl
@[simp] theorem tzeroV_19 : tzeroV Try.prog 19 = some (.agg [.val (.pointer none)]) := by kernel_rfl
@[simp] theorem tzero_19 : tzero Try.prog 19 = some [.val (.pointer none)] := by kernel_rfl
attribute [simp] Try.underlying19
@[simp] theorem tsize_20 : tsize Try.prog 20 = some 1 := by kernel_rfl
@[simp] theorem tbytes_20 : tbytes Try.prog 20 = some 16 := by kernel_rfl
@[simp] theorem tzeroV_20 : tzeroV Try.prog 20 = some (.val .nilIface) := by kernel_rfl
@[simp] theorem tzero_20 : tzero Try.prog 20 = some [.val .nilIface] := by kernel_rfl
attribute [simp] Try.underlying20
@[simp] theorem tsize_21 : tsize Try.prog 21 = some 1 := by kernel_rfl
@[simp] theorem tbytes_21 : tbytes Try.prog 21 = some 4 := by kernel_rfl
@[simp] theorem tzeroV_21 : tzeroV Try.prog 21 = some (.val (.int .i32 0)) := by kernel_rfl
@[simp] theorem tzero_21 : tzero Try.prog 21 = some [.val (.int .i32 0)] := by kernel_rfl
attribute [simp] Try.underlying21
@[simp] theorem tsize_22 : tsize Try.prog 22 = some 1 := by kernel_rfl
@[simp] theorem tbytes_22 : tbytes Try.prog 22 = some 24 := by kernel_rfl
@[simp] theorem tzeroV_22 : tzeroV Try.prog 22 = some (.val (.slice none 0 0)) := by kernel_rfl
@[simp] theorem tzero_22 : tzero Try.prog 22 = some [.val (.slice none 0 0)] := by kernel_rfl
attribute [simp] Try.underlying22
@[simp] theorem tsize_23 : tsize Try.prog 23 = some 1 := by kernel_rfl
@[simp] theorem tbytes_23 : tbytes Try.prog 23 = some 24 := by kernel_rfl
@[simp] theorem tzeroV_23 : tzeroV Try.prog 23 = some (.val (.slice none 0 0)) := by kernel_rfl
@[simp] theorem tzero_23 : tzero Try.prog 23 = some [.val (.slice none 0 0)] := by kernel_rfl
attribute [simp] Try.underlying23
@[simp] theorem tsize_24 : tsize Try.prog 24 = some 1 := by kernel_rfl
@[simp] theorem tbytes_24 : tbytes Try.prog 24 = some 8 := by kernel_rfl
@[simp] theorem tzeroV_24 : tzeroV Try.prog 24 = some (.val .nilFunc) := by kernel_rfl
@[simp] theorem tzero_24 : tzero Try.prog 24 = some [.val .nilFunc] := by kernel_rfl
attribute [simp] Try.underlying24
@[simp] theorem tsize_25 : tsize Try.prog 25 = some 1 := by kernel_rfl
@[simp] theorem tbytes_25 : tbytes Try.prog 25 = some 24 := by kernel_rfl
@[simp] theorem tzeroV_25 : tzeroV Try.prog 25 = some (.val (.slice none 0 0)) := by kernel_rfl
@[simp] theorem tzero_25 : tzero Try.prog 25 = some [.val (.slice none 0 0)] := by kernel_rfl
attribute [simp] Try.underlying25
@[simp] theorem tsize_26 : tsize Try.prog 26 = some 1 := by kernel_rfl
@[simp] theorem tbytes_26 : tbytes Try.prog 26 = some 8 := by kernel_rfl
@[simp] theorem tzeroV_26 : tzeroV Try.prog 26 = some (.val .nilFunc) := by kernel_rfl
@[simp] theorem tzero_26 : tzero Try.prog 26 = some [.val .nilFunc] := by kernel_rfl
attribute [simp] Try.underlying26
@[simp] theorem tsize_27 : tsize Try.prog 27 = some 1 := by kernel_rfl
@[simp] theorem tbytes_27 : tbytes Try.prog 27 = some 8 := by kernel_rfl
@[simp] theorem tzeroV_27 : tzeroV Try.prog 27 = some (.val .nilFunc) := by kernel_rfl
@[simp] theorem tzero_27 : tzero Try.prog 27 = some [.val .nilFunc] := by kernel_rfl
attribute [simp] Try.underlying27
@[simp] theorem tsize_28 : tsize Try.prog 28 = some 1 := by kernel_rfl
@[simp] theorem tbytes_28 : tbytes Try.prog 28 = some 8 := by kernel_rfl
@[simp] theorem tzeroV_28 : tzeroV Try.prog 28 = some (.val (.int .i64 0)) := by kernel_rfl
@[simp] theorem tzero_28 : tzero Try.prog 28 = some [.val (.int .i64 0)] := by kernel_rfl
attribute [simp] Try.underlying28
@[simp] theorem tsize_30 : tsize Try.prog 30 = some 1 := by kernel_rfl
@[simp] theorem tbytes_30 : tbytes Try.prog 30 = some 8 := by kernel_rfl
@[simp] theorem tzeroV_30 : tzeroV Try.prog 30 = some (.val .nilFunc) := by kernel_rfl
@[simp] theorem tzero_30 : tzero Try.prog 30 = some [.val .nilFunc] := by kernel_rfl
attribute [simp] Try.underlying30
@[simp] theorem tsize_31 : tsize Try.prog 31 = some 3 := by kernel_rfl
@[simp] theorem tbytes_31 : tbytes Try.prog 31 = some 32 := by kernel_rfl
@[simp] theorem tzeroV_31 : tzeroV Try.prog 31 = some (.agg [.val (.int .i64 0), .val (.int .i64 0), .val (.string ⟨#[]⟩)]) := by kernel_rfl
@[simp] theorem tzero_31 : tzero Try.prog 31 = some [.val (.int .i64 0), .val (.int .i64 0), .val (.string ⟨#[]⟩)] := by kernel_rfl
attribute [simp] Try.underlying31
@[simp] theorem tsize_32 : tsize Try.prog 32 = some 3 := by kernel_rfl
@[simp] theorem tbytes_32 : tbytes Try.prog 32 = some 32 := by kernel_rfl
@[simp] theorem tzeroV_32 : tzeroV Try.prog 32 = some (.agg [.val (.int .i64 0), .val (.int .i64 0), .val (.string ⟨#[]⟩)]) := by kernel_rfl
@[simp] theorem tzero_32 : tzero Try.prog 32 = some [.val (.int .i64 0), .val (.int .i64 0), .val (.string ⟨#[]⟩)] := by kernel_rfl
attribute [simp] Try.underlying32
@[simp] theorem held_32 : Try.prog.stoodInHeld 32 = false := by kernel_rfl
@[simp] theorem guard_32 : Try.prog.eqGuardType Try.prog.depth 32 = false := by kernel_rfl
@[simp] theorem tsize_33 : tsize Try.prog 33 = some 1 := by kernel_rfl
@[simp] theorem tbytes_33 : tbytes Try.prog 33 = some 8 := by kernel_rfl
@[simp] theorem tzeroV_33 : tzeroV Try.prog 33 = some (.val .nilFunc) := by kernel_rfl
@[simp] theorem tzero_33 : tzero Try.prog 33 = some [.val .nilFunc] := by kernel_rfl
attribute [simp] Try.underlying33
@[simp] theorem tsize_34 : tsize Try.prog 34 = some 1 := by kernel_rfl
@[simp] theorem tbytes_34 : tbytes Try.prog 34 = some 8 := by kernel_rfl
@[simp] theorem tzeroV_34 : tzeroV Try.prog 34 = some (.val .nilFunc) := by kernel_rfl
@[simp] theorem tzero_34 : tzero Try.prog 34 = some [.val .nilFunc] := by kernel_rfl
attribute [simp] Try.underlying34
@[simp] theorem tsize_35 : tsize Try.prog 35 = some 1 := by kernel_rfl
@[simp] theorem tbytes_35 : tbytes Try.prog 35 = some 24 := by kernel_rfl
@[simp] theorem tzeroV_35 : tzeroV Try.prog 35 = some (.val (.slice none 0 0)) := by kernel_rfl
@[simp] theorem tzero_35 : tzero Try.prog 35 = some [.val (.slice none 0 0)] := by kernel_rfl
attribute [simp] Try.underlying35
@[simp] theorem tsize_37 : tsize Try.prog 37 = some 1 := by kernel_rfl
@[simp] theorem tbytes_37 : tbytes Try.prog 37 = some 8 := by kernel_rfl
@[simp] theorem tzeroV_37 : tzeroV Try.prog 37 = some (.val .nilFunc) := by kernel_rfl
@[simp] theorem tzero_37 : tzero Try.prog 37 = some [.val .nilFunc] := by kernel_rfl
attribute [simp] Try.underlying37
@[simp] theorem tsize_38 : tsize Try.prog 38 = some 1 := by kernel_rfl
@[simp] theorem tbytes_38 : tbytes Try.prog 38 = some 8 := by kernel_rfl
@[simp] theorem tzeroV_38 : tzeroV Try.prog 38 = some (.val .nilFunc) := by kernel_rfl
@[simp] theorem tzero_38 : tzero Try.prog 38 = some [.val .nilFunc] := by kernel_rfl
attribute [simp] Try.underlying38
@[simp] theorem tsize_39 : tsize Try.prog 39 = some 1 := by kernel_rfl
@[simp] theorem tbytes_39 : tbytes Try.prog 39 = some 24 := by kernel_rfl
@[simp] theorem tzeroV_39 : tzeroV Try.prog 39 = some (.val (.slice none 0 0)) := by kernel_rfl
@[simp] theorem tzero_39 : tzero Try.prog 39 = some [.val (.slice none 0 0)] := by kernel_rfl
attribute [simp] Try.underlying39
@[simp] theorem tsize_40 : tsize Try.prog 40 = some 2 := by kernel_rfl
@[simp] theorem tbytes_40 : tbytes Try.prog 40 = some 32 := by kernel_rfl
@[simp] theorem tzeroV_40 : tzeroV Try.prog 40 = some (.agg [.val (.int .i64 0), .val (.slice none 0 0)]) := by kernel_rfl
@[simp] theorem tzero_40 : tzero Try.prog 40 = some [.val (.int .i64 0), .val (.slice none 0 0)] := by kernel_rfl
attribute [simp] Try.underlying40
@[simp] theorem tsize_41 : tsize Try.prog 41 = some 2 := by kernel_rfl
@[simp] theorem tbytes_41 : tbytes Try.prog 41 = some 32 := by kernel_rfl
@[simp] theorem tzeroV_41 : tzeroV Try.prog 41 = some (.agg [.val (.int .i64 0), .val (.slice none 0 0)]) := by kernel_rfl
@[simp] theorem tzero_41 : tzero Try.prog 41 = some [.val (.int .i64 0), .val (.slice none 0 0)] := by kernel_rfl
attribute [simp] Try.underlying41
@[simp] theorem held_41 : Try.prog.stoodInHeld 41 = false := by kernel_rfl
@[simp] theorem guard_41 : Try.prog.eqGuardType Try.prog.depth 41 = false := by kernel_rfl
@[simp] theorem tsize_43 : tsize Try.prog 43 = some 1 := by kernel_rfl
@[simp] theorem tbytes_43 : tbytes Try.prog 43 = some 8 := by kernel_rfl
@[simp] theorem tzeroV_43 : tzeroV Try.prog 43 = some (.val .nilFunc) := by kernel_rfl
@[simp] theorem tzero_43 : tzero Try.prog 43 = some [.val .nilFunc] := by kernel_rfl
attribute [simp] Try.underlying43
@[simp] theorem tsize_44 : tsize Try.prog 44 = some 1 := by kernel_rfl
@[simp] theorem tbytes_44 : tbytes Try.prog 44 = some 8 := by kernel_rfl
@[simp] theorem tzeroV_44 : tzeroV Try.prog 44 = some (.val .nilFunc) := by kernel_rfl
@[simp] theorem tzero_44 : tzero Try.prog 44 = some [.val .nilFunc] := by kernel_rfl
attribute [simp] Try.underlying44
@[simp] theorem tsize_45 : tsize Try.prog 45 = some 1 := by kernel_rfl
@[simp] theorem tbytes_45 : tbytes Try.prog 45 = some 8 := by kernel_rfl
@[simp] theorem tzeroV_45 : tzeroV Try.prog 45 = some (.val .nilFunc) := by kernel_rfl
@[simp] theorem tzero_45 : tzero Try.prog 45 = some [.val .nilFunc] := by kernel_rfl
attribute [simp] Try.underlying45
@[simp] theorem tsize_46 : tsize Try.prog 46 = some 2 := by kernel_rfl
@[simp] theorem tbytes_46 : tbytes Try.prog 46 = some 16 := by kernel_rfl
@[simp] theorem tzeroV_46 : tzeroV Try.prog 46 = some (.agg [.val (.int .i64 0), .val (.int .i64 0)]) := by kernel_rfl
@[simp] theorem tzero_46 : tzero Try.prog 46 = some [.val (.int .i64 0), .val (.int .i64 0)] := by kernel_rfl
attribute [simp] Try.underlying46
@[simp] theorem tsize_47 : tsize Try.prog 47 = some 3 := by kernel_rfl
@[simp] theorem tbytes_47 : tbytes Try.prog 47 = some 40 := by kernel_rfl
@[simp] theorem tzeroV_47 : tzeroV Try.prog 47 = some (.agg [.val (.int .i64 0), .val (.int .i64 0), .val (.slice none 0 0)]) := by kernel_rfl
@[simp] theorem tzero_47 : tzero Try.prog 47 = some [.val (.int .i64 0), .val (.int .i64 0), .val (.slice none 0 0)] := by kernel_rfl
attribute [simp] Try.underlying47
@[simp] theorem tsize_48 : tsize Try.prog 48 = some 3 := by kernel_rfl
@[simp] theorem tbytes_48 : tbytes Try.prog 48 = some 40 := by kernel_rfl
@[simp] theorem tzeroV_48 : tzeroV Try.prog 48 = some (.agg [.val (.int .i64 0), .val (.int .i64 0), .val (.slice none 0 0)]) := by kernel_rfl
@[simp] theorem tzero_48 : tzero Try.prog 48 = some [.val (.int .i64 0), .val (.int .i64 0), .val (.slice none 0 0)] := by kernel_rfl
attribute [simp] Try.underlying48
@[simp] theorem held_48 : Try.prog.stoodInHeld 48 = false := by kernel_rfl
@[simp] theorem guard_48 : Try.prog.eqGuardType Try.prog.depth 48 = false := by kernel_rfl
@[simp] theorem tsize_49 : tsize Try.prog 49 = some 1 := by kernel_rfl
@[simp] theorem tbytes_49 : tbytes Try.prog 49 = some 8 := by kernel_rfl
@[simp] theorem tzeroV_49 : tzeroV Try.prog 49 = some (.val .nilFunc) := by kernel_rfl
@[simp] theorem tzero_49 : tzero Try.prog 49 = some [.val .nilFunc] := by kernel_rfl
attribute [simp] Try.underlying49
@[simp] theorem tsize_50 : tsize Try.prog 50 = some 1 := by kernel_rfl
@[simp] theorem tbytes_50 : tbytes Try.prog 50 = some 8 := by kernel_rfl
@[simp] theorem tzeroV_50 : tzeroV Try.prog 50 = some (.val .nilFunc) := by kernel_rfl
@[simp] theorem tzero_50 : tzero Try.prog 50 = some [.val .nilFunc] := by kernel_rfl
attribute [simp] Try.underlying50
@[simp] theorem tsize_51 : tsize Try.prog 51 = some 1 := by kernel_rfl
@[simp] theorem tbytes_51 : tbytes Try.prog 51 = some 8 := by kernel_rfl
@[simp] theorem tzeroV_51 : tzeroV Try.prog 51 = some (.val .nilFunc) := by kernel_rfl
@[simp] theorem tzero_51 : tzero Try.prog 51 = some [.val .nilFunc] := by kernel_rfl
attribute [simp] Try.underlying51
@[simp] theorem tsize_52 : tsize Try.prog 52 = some 1 := by kernel_rfl
@[simp] theorem tbytes_52 : tbytes Try.prog 52 = some 8 := by kernel_rfl
@[simp] theorem tzeroV_52 : tzeroV Try.prog 52 = some (.val .nilFunc) := by kernel_rfl
@[simp] theorem tzero_52 : tzero Try.prog 52 = some [.val .nilFunc] := by kernel_rfl
attribute [simp] Try.underlying52
@[simp] theorem tsize_53 : tsize Try.prog 53 = some 1 := by kernel_rfl
@[simp] theorem tbytes_53 : tbytes Try.prog 53 = some 8 := by kernel_rfl
@[simp] theorem tzeroV_53 : tzeroV Try.prog 53 = some (.val .nilFunc) := by kernel_rfl
@[simp] theorem tzero_53 : tzero Try.prog 53 = some [.val .nilFunc] := by kernel_rfl
attribute [simp] Try.underlying53
@[simp] theorem tsize_54 : tsize Try.prog 54 = some 1 := by kernel_rfl
@[simp] theorem tbytes_54 : tbytes Try.prog 54 = some 8 := by kernel_rfl
@[simp] theorem tzeroV_54 : tzeroV Try.prog 54 = some (.val .nilFunc) := by kernel_rfl
@[simp] theorem tzero_54 : tzero Try.prog 54 = some [.val .nilFunc] := by kernel_rfl
attribute [simp] Try.underlying54
@[simp] theorem tsize_55 : tsize Try.prog 55 = some 1 := by kernel_rfl
@[simp] theorem tbytes_55 : tbytes Try.prog 55 = some 8 := by kernel_rfl
@[simp] theorem tzeroV_55 : tzeroV Try.prog 55 = some (.val .nilFunc) := by kernel_rfl
@[simp] theorem tzero_55 : tzero Try.prog 55 = some [.val .nilFunc] := by kernel_rfl
attribute [simp] Try.underlying55
@[simp] theorem tsize_56 : tsize Try.prog 56 = some 1 := by kernel_rfl
@[simp] theorem tbytes_56 : tbytes Try.prog 56 = some 8 := by kernel_rfl
@[simp] theorem tzeroV_56 : tzeroV Try.prog 56 = some (.val (.pointer none)) := by kernel_rfl
@[simp] theorem tzero_56 : tzero Try.prog 56 = some [.val (.pointer none)] := by kernel_rfl
attribute [simp] Try.underlying56
@[simp] theorem tsize_57 : tsize Try.prog 57 = some 2 := by kernel_rfl
@[simp] theorem tbytes_57 : tbytes Try.prog 57 = some 48 := by kernel_rfl
@[simp] theorem tzeroV_57 : tzeroV Try.prog 57 = some (.agg [.val (.slice none 0 0), .val (.slice none 0 0)]) := by kernel_rfl
@[simp] theorem tzero_57 : tzero Try.prog 57 = some [.val (.slice none 0 0), .val (.slice none 0 0)] := by kernel_rfl
attribute [simp] Try.underlying57
@[simp] theorem tsize_58 : tsize Try.prog 58 = some 2 := by kernel_rfl
@[simp] theorem tbytes_58 : tbytes Try.prog 58 = some 48 := by kernel_rfl
@[simp] theorem tzeroV_58 : tzeroV Try.prog 58 = some (.agg [.val (.slice none 0 0), .val (.slice none 0 0)]) := by kernel_rfl
@[simp] theorem tzero_58 : tzero Try.prog 58 = some [.val (.slice none 0 0), .val (.slice none 0 0)] := by kernel_rfl
attribute [simp] Try.underlying58
@[simp] theorem held_58 : Try.prog.stoodInHeld 58 = false := by kernel_rfl
@[simp] theorem guard_58 : Try.prog.eqGuardType Try.prog.depth 58 = false := by kernel_rfl
@[simp] theorem tsize_59 : tsize Try.prog 59 = some 1 := by kernel_rfl
@[simp] theorem tbytes_59 : tbytes Try.prog 59 = some 8 := by kernel_rfl
@[simp] theorem tzeroV_59 : tzeroV Try.prog 59 = some (.val .nilFunc) := by kernel_rfl
@[simp] theorem tzero_59 : tzero Try.prog 59 = some [.val .nilFunc] := by kernel_rfl
attribute [simp] Try.underlying59
@[simp] theorem tsize_60 : tsize Try.prog 60 = some 1 := by kernel_rfl
@[simp] theorem tbytes_60 : tbytes Try.prog 60 = some 8 := by kernel_rfl
@[simp] theorem tzeroV_60 : tzeroV Try.prog 60 = some (.val .nilFunc) := by kernel_rfl
@[simp] theorem tzero_60 : tzero Try.prog 60 = some [.val .nilFunc] := by kernel_rfl
attribute [simp] Try.underlying60
@[simp] theorem tsize_62 : tsize Try.prog 62 = some 1 := by kernel_rfl
@[simp] theorem tbytes_62 : tbytes Try.prog 62 = some 8 := by kernel_rfl
@[simp] theorem tzeroV_62 : tzeroV Try.prog 62 = some (.val (.map none)) := by kernel_rfl
@[simp] theorem tzero_62 : tzero Try.prog 62 = some [.val (.map none)] := by kernel_rfl
attribute [simp] Try.underlying62
@[simp] theorem tsize_63 : tsize Try.prog 63 = some 1 := by kernel_rfl
@[simp] theorem tbytes_63 : tbytes Try.prog 63 = some 8 := by kernel_rfl
@[simp] theorem tzeroV_63 : tzeroV Try.prog 63 = some (.val .nilFunc) := by kernel_rfl
@[simp] theorem tzero_63 : tzero Try.prog 63 = some [.val .nilFunc] := by kernel_rfl
attribute [simp] Try.underlying63
@[simp] theorem tsize_64 : tsize Try.prog 64 = some 1 := by kernel_rfl
@[simp] theorem tbytes_64 : tbytes Try.prog 64 = some 8 := by kernel_rfl
@[simp] theorem tzeroV_64 : tzeroV Try.prog 64 = some (.val .nilFunc) := by kernel_rfl
@[simp] theorem tzero_64 : tzero Try.prog 64 = some [.val .nilFunc] := by kernel_rfl
attribute [simp] Try.underlying64
@[simp] theorem tsize_65 : tsize Try.prog 65 = some 1 := by kernel_rfl
@[simp] theorem tbytes_65 : tbytes Try.prog 65 = some 8 := by kernel_rfl
@[simp] theorem tzeroV_65 : tzeroV Try.prog 65 = some (.val .nilFunc) := by kernel_rfl
@[simp] theorem tzero_65 : tzero Try.prog 65 = some [.val .nilFunc] := by kernel_rfl
attribute [simp] Try.underlying65
@[simp] theorem tsize_66 : tsize Try.prog 66 = some 1 := by kernel_rfl
@[simp] theorem tbytes_66 : tbytes Try.prog 66 = some 8 := by kernel_rfl
@[simp] theorem tzeroV_66 : tzeroV Try.prog 66 = some (.val .nilFunc) := by kernel_rfl
@[simp] theorem tzero_66 : tzero Try.prog 66 = some [.val .nilFunc] := by kernel_rfl
attribute [simp] Try.underlying66
@[simp] theorem tsize_67 : tsize Try.prog 67 = some 1 := by kernel_rfl
@[simp] theorem tbytes_67 : tbytes Try.prog 67 = some 8 := by kernel_rfl
@[simp] theorem tzeroV_67 : tzeroV Try.prog 67 = some (.val .nilFunc) := by kernel_rfl
@[simp] theorem tzero_67 : tzero Try.prog 67 = some [.val .nilFunc] := by kernel_rfl
attribute [simp] Try.underlying67
@[simp] theorem tsize_68 : tsize Try.prog 68 = some 1 := by kernel_rfl
@[simp] theorem tbytes_68 : tbytes Try.prog 68 = some 8 := by kernel_rfl
@[simp] theorem tzeroV_68 : tzeroV Try.prog 68 = some (.val .nilFunc) := by kernel_rfl
@[simp] theorem tzero_68 : tzero Try.prog 68 = some [.val .nilFunc] := by kernel_rfl
attribute [simp] Try.underlying68
@[simp] theorem tsize_69 : tsize Try.prog 69 = some 1 := by kernel_rfl
@[simp] theorem tbytes_69 : tbytes Try.prog 69 = some 8 := by kernel_rfl
@[simp] theorem tzeroV_69 : tzeroV Try.prog 69 = some (.val .nilFunc) := by kernel_rfl
@[simp] theorem tzero_69 : tzero Try.prog 69 = some [.val .nilFunc] := by kernel_rfl
attribute [simp] Try.underlying69
@[simp] theorem tsize_70 : tsize Try.prog 70 = some 1 := by kernel_rfl
@[simp] theorem tbytes_70 : tbytes Try.prog 70 = some 8 := by kernel_rfl
@[simp] theorem tzeroV_70 : tzeroV Try.prog 70 = some (.val .nilFunc) := by kernel_rfl
@[simp] theorem tzero_70 : tzero Try.prog 70 = some [.val .nilFunc] := by kernel_rfl
attribute [simp] Try.underlying70
@[simp] theorem tsize_71 : tsize Try.prog 71 = some 1 := by kernel_rfl
@[simp] theorem tbytes_71 : tbytes Try.prog 71 = some 8 := by kernel_rfl
@[simp] theorem tzeroV_71 : tzeroV Try.prog 71 = some (.val .nilFunc) := by kernel_rfl
@[simp] theorem tzero_71 : tzero Try.prog 71 = some [.val .nilFunc] := by kernel_rfl
attribute [simp] Try.underlying71
@[simp] theorem tsize_72 : tsize Try.prog 72 = some 1 := by kernel_rfl
@[simp] theorem tbytes_72 : tbytes Try.prog 72 = some 8 := by kernel_rfl
@[simp] theorem tzeroV_72 : tzeroV Try.prog 72 = some (.val .nilFunc) := by kernel_rfl
@[simp] theorem tzero_72 : tzero Try.prog 72 = some [.val .nilFunc] := by kernel_rfl
attribute [simp] Try.underlying72
@[simp] theorem tsize_73 : tsize Try.prog 73 = some 1 := by kernel_rfl
@[simp] theorem tbytes_73 : tbytes Try.prog 73 = some 8 := by kernel_rfl
@[simp] theorem tzeroV_73 : tzeroV Try.prog 73 = some (.val .nilFunc) := by kernel_rfl
@[simp] theorem tzero_73 : tzero Try.prog 73 = some [.val .nilFunc] := by kernel_rfl
attribute [simp] Try.underlying73
@[simp] theorem tsize_74 : tsize Try.prog 74 = some 1 := by kernel_rfl
@[simp] theorem tbytes_74 : tbytes Try.prog 74 = some 8 := by kernel_rfl
@[simp] theorem tzeroV_74 : tzeroV Try.prog 74 = some (.val .nilFunc) := by kernel_rfl
@[simp] theorem tzero_74 : tzero Try.prog 74 = some [.val .nilFunc] := by kernel_rfl
attribute [simp] Try.underlying74
@[simp] theorem tsize_75 : tsize Try.prog 75 = some 1 := by kernel_rfl
@[simp] theorem tbytes_75 : tbytes Try.prog 75 = some 8 := by kernel_rfl
@[simp] theorem tzeroV_75 : tzeroV Try.prog 75 = some (.val .nilFunc) := by kernel_rfl
@[simp] theorem tzero_75 : tzero Try.prog 75 = some [.val .nilFunc] := by kernel_rfl
attribute [simp] Try.underlying75
@[simp] theorem tsize_77 : tsize Try.prog 77 = some 1 := by kernel_rfl
@[simp] theorem tbytes_77 : tbytes Try.prog 77 = some 8 := by kernel_rfl
@[simp] theorem tzeroV_77 : tzeroV Try.prog 77 = some (.val .nilFunc) := by kernel_rfl
@[simp] theorem tzero_77 : tzero Try.prog 77 = some [.val .nilFunc] := by kernel_rfl
attribute [simp] Try.underlying77
@[simp] theorem tsize_78 : tsize Try.prog 78 = some 1 := by kernel_rfl
@[simp] theorem tbytes_78 : tbytes Try.prog 78 = some 8 := by kernel_rfl
@[simp] theorem tzeroV_78 : tzeroV Try.prog 78 = some (.val .nilFunc) := by kernel_rfl
@[simp] theorem tzero_78 : tzero Try.prog 78 = some [.val .nilFunc] := by kernel_rfl
attribute [simp] Try.underlying78
@[simp] theorem tsize_79 : tsize Try.prog 79 = some 1 := by kernel_rfl
@[simp] theorem tbytes_79 : tbytes Try.prog 79 = some 8 := by kernel_rfl
@[simp] theorem tzeroV_79 : tzeroV Try.prog 79 = some (.val .nilFunc) := by kernel_rfl
@[simp] theorem tzero_79 : tzero Try.prog 79 = some [.val .nilFunc] := by kernel_rfl
attribute [simp] Try.underlying79
@[simp] theorem tsize_80 : tsize Try.prog 80 = some 1 := by kernel_rfl
@[simp] theorem tbytes_80 : tbytes Try.prog 80 = some 24 := by kernel_rfl
@[simp] theorem tzeroV_80 : tzeroV Try.prog 80 = some (.val (.slice none 0 0)) := by kernel_rfl
@[simp] theorem tzero_80 : tzero Try.prog 80 = some [.val (.slice none 0 0)] := by kernel_rfl
attribute [simp] Try.underlying80
@[simp] theorem tsize_81 : tsize Try.prog 81 = some 1 := by kernel_rfl
@[simp] theorem tbytes_81 : tbytes Try.prog 81 = some 8 := by kernel_rfl
@[simp] theorem tzeroV_81 : tzeroV Try.prog 81 = some (.val .nilFunc) := by kernel_rfl
@[simp] theorem tzero_81 : tzero Try.prog 81 = some [.val .nilFunc] := by kernel_rfl
attribute [simp] Try.underlying81
@[simp] theorem tsize_82 : tsize Try.prog 82 = some 1 := by kernel_rfl
@[simp] theorem tbytes_82 : tbytes Try.prog 82 = some 8 := by kernel_rfl
@[simp] theorem tzeroV_82 : tzeroV Try.prog 82 = some (.val .nilFunc) := by kernel_rfl
@[simp] theorem tzero_82 : tzero Try.prog 82 = some [.val .nilFunc] := by kernel_rfl
attribute [simp] Try.underlying82
@[simp] theorem tsize_83 : tsize Try.prog 83 = some 1 := by kernel_rfl
@[simp] theorem tbytes_83 : tbytes Try.prog 83 = some 8 := by kernel_rfl
@[simp] theorem tzeroV_83 : tzeroV Try.prog 83 = some (.val .nilFunc) := by kernel_rfl
@[simp] theorem tzero_83 : tzero Try.prog 83 = some [.val .nilFunc] := by kernel_rfl
attribute [simp] Try.underlying83
@[simp] theorem tsize_84 : tsize Try.prog 84 = some 1 := by kernel_rfl
@[simp] theorem tbytes_84 : tbytes Try.prog 84 = some 8 := by kernel_rfl
@[simp] theorem tzeroV_84 : tzeroV Try.prog 84 = some (.val .nilFunc) := by kernel_rfl
@[simp] theorem tzero_84 : tzero Try.prog 84 = some [.val .nilFunc] := by kernel_rfl
attribute [simp] Try.underlying84
@[simp] theorem tsize_85 : tsize Try.prog 85 = some 1 := by kernel_rfl
@[simp] theorem tbytes_85 : tbytes Try.prog 85 = some 8 := by kernel_rfl
@[simp] theorem tzeroV_85 : tzeroV Try.prog 85 = some (.val .nilFunc) := by kernel_rfl
@[simp] theorem tzero_85 : tzero Try.prog 85 = some [.val .nilFunc] := by kernel_rfl
attribute [simp] Try.underlying85
@[simp] theorem tsize_86 : tsize Try.prog 86 = some 1 := by kernel_rfl
@[simp] theorem tbytes_86 : tbytes Try.prog 86 = some 8 := by kernel_rfl
@[simp] theorem tzeroV_86 : tzeroV Try.prog 86 = some (.val .nilFunc) := by kernel_rfl
@[simp] theorem tzero_86 : tzero Try.prog 86 = some [.val .nilFunc] := by kernel_rfl
attribute [simp] Try.underlying86
@[simp] theorem tsize_88 : tsize Try.prog 88 = some 1 := by kernel_rfl
@[simp] theorem tbytes_88 : tbytes Try.prog 88 = some 8 := by kernel_rfl
@[simp] theorem tzeroV_88 : tzeroV Try.prog 88 = some (.val .nilFunc) := by kernel_rfl
@[simp] theorem tzero_88 : tzero Try.prog 88 = some [.val .nilFunc] := by kernel_rfl
attribute [simp] Try.underlying88
@[simp] theorem tsize_89 : tsize Try.prog 89 = some 1 := by kernel_rfl
@[simp] theorem tbytes_89 : tbytes Try.prog 89 = some 8 := by kernel_rfl
@[simp] theorem tzeroV_89 : tzeroV Try.prog 89 = some (.val .nilFunc) := by kernel_rfl
@[simp] theorem tzero_89 : tzero Try.prog 89 = some [.val .nilFunc] := by kernel_rfl
attribute [simp] Try.underlying89
@[simp] theorem tsize_90 : tsize Try.prog 90 = some 1 := by kernel_rfl
@[simp] theorem tbytes_90 : tbytes Try.prog 90 = some 8 := by kernel_rfl
@[simp] theorem tzeroV_90 : tzeroV Try.prog 90 = some (.val .nilFunc) := by kernel_rfl
@[simp] theorem tzero_90 : tzero Try.prog 90 = some [.val .nilFunc] := by kernel_rfl
attribute [simp] Try.underlying90
@[simp] theorem tsize_91 : tsize Try.prog 91 = some 1 := by kernel_rfl
@[simp] theorem tbytes_91 : tbytes Try.prog 91 = some 8 := by kernel_rfl
@[simp] theorem tzeroV_91 : tzeroV Try.prog 91 = some (.val .nilFunc) := by kernel_rfl
@[simp] theorem tzero_91 : tzero Try.prog 91 = some [.val .nilFunc] := by kernel_rfl
attribute [simp] Try.underlying91
@[simp] theorem tsize_92 : tsize Try.prog 92 = some 1 := by kernel_rfl
@[simp] theorem tbytes_92 : tbytes Try.prog 92 = some 8 := by kernel_rfl
@[simp] theorem tzeroV_92 : tzeroV Try.prog 92 = some (.val .nilFunc) := by kernel_rfl
@[simp] theorem tzero_92 : tzero Try.prog 92 = some [.val .nilFunc] := by kernel_rfl
attribute [simp] Try.underlying92
@[simp] theorem tsize_93 : tsize Try.prog 93 = some 1 := by kernel_rfl
@[simp] theorem tbytes_93 : tbytes Try.prog 93 = some 8 := by kernel_rfl
@[simp] theorem tzeroV_93 : tzeroV Try.prog 93 = some (.val (.int .u64 0)) := by kernel_rfl
@[simp] theorem tzero_93 : tzero Try.prog 93 = some [.val (.int .u64 0)] := by kernel_rfl
attribute [simp] Try.underlying93
@[simp] theorem tsize_94 : tsize Try.prog 94 = some 1 := by kernel_rfl
@[simp] theorem tbytes_94 : tbytes Try.prog 94 = some 8 := by kernel_rfl
@[simp] theorem tzeroV_94 : tzeroV Try.prog 94 = some (.val .nilFunc) := by kernel_rfl
@[simp] theorem tzero_94 : tzero Try.prog 94 = some [.val .nilFunc] := by kernel_rfl
attribute [simp] Try.underlying94
@[simp] theorem tsize_95 : tsize Try.prog 95 = some 1 := by kernel_rfl
@[simp] theorem tbytes_95 : tbytes Try.prog 95 = some 8 := by kernel_rfl
@[simp] theorem tzeroV_95 : tzeroV Try.prog 95 = some (.val .nilFunc) := by kernel_rfl
@[simp] theorem tzero_95 : tzero Try.prog 95 = some [.val .nilFunc] := by kernel_rfl
attribute [simp] Try.underlying95
@[simp] theorem tsize_96 : tsize Try.prog 96 = some 1 := by kernel_rfl
@[simp] theorem tbytes_96 : tbytes Try.prog 96 = some 8 := by kernel_rfl
@[simp] theorem tzeroV_96 : tzeroV Try.prog 96 = some (.val .nilFunc) := by kernel_rfl
@[simp] theorem tzero_96 : tzero Try.prog 96 = some [.val .nilFunc] := by kernel_rfl
attribute [simp] Try.underlying96
@[simp] theorem tsize_97 : tsize Try.prog 97 = some 1 := by kernel_rfl
@[simp] theorem tbytes_97 : tbytes Try.prog 97 = some 8 := by kernel_rfl
@[simp] theorem tzeroV_97 : tzeroV Try.prog 97 = some (.val .nilFunc) := by kernel_rfl
@[simp] theorem tzero_97 : tzero Try.prog 97 = some [.val .nilFunc] := by kernel_rfl
attribute [simp] Try.underlying97
@[simp] theorem tsize_98 : tsize Try.prog 98 = some 1 := by kernel_rfl
@[simp] theorem tbytes_98 : tbytes Try.prog 98 = some 8 := by kernel_rfl
@[simp] theorem tzeroV_98 : tzeroV Try.prog 98 = some (.val .nilFunc) := by kernel_rfl
@[simp] theorem tzero_98 : tzero Try.prog 98 = some [.val .nilFunc] := by kernel_rfl
attribute [simp] Try.underlying98
@[simp] theorem tsize_99 : tsize Try.prog 99 = some 1 := by kernel_rfl
@[simp] theorem tbytes_99 : tbytes Try.prog 99 = some 8 := by kernel_rfl
@[simp] theorem tzeroV_99 : tzeroV Try.prog 99 = some (.val .nilFunc) := by kernel_rfl
@[simp] theorem tzero_99 : tzero Try.prog 99 = some [.val .nilFunc] := by kernel_rfl
attribute [simp] Try.underlying99
@[simp] theorem tsize_100 : tsize Try.prog 100 = some 1 := by kernel_rfl
@[simp] theorem tbytes_100 : tbytes Try.prog 100 = some 8 := by kernel_rfl
@[simp] theorem tzeroV_100 : tzeroV Try.prog 100 = some (.val .nilFunc) := by kernel_rfl
@[simp] theorem tzero_100 : tzero Try.prog 100 = some [.val .nilFunc] := by kernel_rfl
attribute [simp] Try.underlying100
@[simp] theorem tsize_101 : tsize Try.prog 101 = some 1 := by kernel_rfl
@[simp] theorem tbytes_101 : tbytes Try.prog 101 = some 8 := by kernel_rfl
@[simp] theorem tzeroV_101 : tzeroV Try.prog 101 = some (.val .nilFunc) := by kernel_rfl
@[simp] theorem tzero_101 : tzero Try.prog 101 = some [.val .nilFunc] := by kernel_rfl
attribute [simp] Try.underlying101
@[simp] theorem tsize_102 : tsize Try.prog 102 = some 1 := by kernel_rfl
@[simp] theorem tbytes_102 : tbytes Try.prog 102 = some 8 := by kernel_rfl
@[simp] theorem tzeroV_102 : tzeroV Try.prog 102 = some (.val .nilFunc) := by kernel_rfl
@[simp] theorem tzero_102 : tzero Try.prog 102 = some [.val .nilFunc] := by kernel_rfl
attribute [simp] Try.underlying102
@[simp] theorem tsize_103 : tsize Try.prog 103 = some 1 := by kernel_rfl
@[simp] theorem tbytes_103 : tbytes Try.prog 103 = some 8 := by kernel_rfl
@[simp] theorem tzeroV_103 : tzeroV Try.prog 103 = some (.val (.int .i64 0)) := by kernel_rfl
@[simp] theorem tzero_103 : tzero Try.prog 103 = some [.val (.int .i64 0)] := by kernel_rfl
attribute [simp] Try.underlying103
@[simp] theorem tsize_105 : tsize Try.prog 105 = some 1 := by kernel_rfl
@[simp] theorem tbytes_105 : tbytes Try.prog 105 = some 8 := by kernel_rfl
@[simp] theorem tzeroV_105 : tzeroV Try.prog 105 = some (.val .nilFunc) := by kernel_rfl
@[simp] theorem tzero_105 : tzero Try.prog 105 = some [.val .nilFunc] := by kernel_rfl
attribute [simp] Try.underlying105
@[simp] theorem tsize_106 : tsize Try.prog 106 = some 1 := by kernel_rfl
@[simp] theorem tbytes_106 : tbytes Try.prog 106 = some 8 := by kernel_rfl
@[simp] theorem tzeroV_106 : tzeroV Try.prog 106 = some (.val .nilFunc) := by kernel_rfl
@[simp] theorem tzero_106 : tzero Try.prog 106 = some [.val .nilFunc] := by kernel_rfl
attribute [simp] Try.underlying106
@[simp] theorem tsize_107 : tsize Try.prog 107 = some 1 := by kernel_rfl
@[simp] theorem tbytes_107 : tbytes Try.prog 107 = some 8 := by kernel_rfl
@[simp] theorem tzeroV_107 : tzeroV Try.prog 107 = some (.val .nilFunc) := by kernel_rfl
@[simp] theorem tzero_107 : tzero Try.prog 107 = some [.val .nilFunc] := by kernel_rfl
attribute [simp] Try.underlying107
@[simp] theorem tsize_108 : tsize Try.prog 108 = some 1 := by kernel_rfl
@[simp] theorem tbytes_108 : tbytes Try.prog 108 = some 8 := by kernel_rfl
@[simp] theorem tzeroV_108 : tzeroV Try.prog 108 = some (.val .nilFunc) := by kernel_rfl
@[simp] theorem tzero_108 : tzero Try.prog 108 = some [.val .nilFunc] := by kernel_rfl
attribute [simp] Try.underlying108
@[simp] theorem tsize_109 : tsize Try.prog 109 = some 1 := by kernel_rfl
@[simp] theorem tbytes_109 : tbytes Try.prog 109 = some 8 := by kernel_rfl
@[simp] theorem tzeroV_109 : tzeroV Try.prog 109 = some (.val .nilFunc) := by kernel_rfl
@[simp] theorem tzero_109 : tzero Try.prog 109 = some [.val .nilFunc] := by kernel_rfl
attribute [simp] Try.underlying109
@[simp] theorem tsize_110 : tsize Try.prog 110 = some 1 := by kernel_rfl
@[simp] theorem tbytes_110 : tbytes Try.prog 110 = some 8 := by kernel_rfl
@[simp] theorem tzeroV_110 : tzeroV Try.prog 110 = some (.val .nilFunc) := by kernel_rfl
@[simp] theorem tzero_110 : tzero Try.prog 110 = some [.val .nilFunc] := by kernel_rfl
attribute [simp] Try.underlying110
@[simp] theorem tsize_111 : tsize Try.prog 111 = some 1 := by kernel_rfl
@[simp] theorem tbytes_111 : tbytes Try.prog 111 = some 4 := by kernel_rfl
@[simp] theorem tzeroV_111 : tzeroV Try.prog 111 = some (.val (.int .u32 0)) := by kernel_rfl
@[simp] theorem tzero_111 : tzero Try.prog 111 = some [.val (.int .u32 0)] := by kernel_rfl
attribute [simp] Try.underlying111
@[simp] theorem tsize_112 : tsize Try.prog 112 = some 1 := by kernel_rfl
@[simp] theorem tbytes_112 : tbytes Try.prog 112 = some 8 := by kernel_rfl
@[simp] theorem tzeroV_112 : tzeroV Try.prog 112 = some (.val .nilFunc) := by kernel_rfl
@[simp] theorem tzero_112 : tzero Try.prog 112 = some [.val .nilFunc] := by kernel_rfl
attribute [simp] Try.underlying112
@[simp] theorem tsize_113 : tsize Try.prog 113 = some 1 := by kernel_rfl
@[simp] theorem tbytes_113 : tbytes Try.prog 113 = some 8 := by kernel_rfl
@[simp] theorem tzeroV_113 : tzeroV Try.prog 113 = some (.val (.int .u64 0)) := by kernel_rfl
@[simp] theorem tzero_113 : tzero Try.prog 113 = some [.val (.int .u64 0)] := by kernel_rfl
attribute [simp] Try.underlying113
@[simp] theorem tsize_114 : tsize Try.prog 114 = some 1 := by kernel_rfl
@[simp] theorem tbytes_114 : tbytes Try.prog 114 = some 8 := by kernel_rfl
@[simp] theorem tzeroV_114 : tzeroV Try.prog 114 = some (.val (.int .u64 0)) := by kernel_rfl
@[simp] theorem tzero_114 : tzero Try.prog 114 = some [.val (.int .u64 0)] := by kernel_rfl
attribute [simp] Try.underlying114
@[simp] theorem tsize_115 : tsize Try.prog 115 = some 1 := by kernel_rfl
@[simp] theorem tbytes_115 : tbytes Try.prog 115 = some 8 := by kernel_rfl
@[simp] theorem tzeroV_115 : tzeroV Try.prog 115 = some (.val .nilFunc) := by kernel_rfl
@[simp] theorem tzero_115 : tzero Try.prog 115 = some [.val .nilFunc] := by kernel_rfl
attribute [simp] Try.underlying115
@[simp] theorem tsize_116 : tsize Try.prog 116 = some 1 := by kernel_rfl
@[simp] theorem tbytes_116 : tbytes Try.prog 116 = some 8 := by kernel_rfl
@[simp] theorem tzeroV_116 : tzeroV Try.prog 116 = some (.val .nilFunc) := by kernel_rfl
@[simp] theorem tzero_116 : tzero Try.prog 116 = some [.val .nilFunc] := by kernel_rfl
attribute [simp] Try.underlying116
@[simp] theorem tsize_117 : tsize Try.prog 117 = some 1 := by kernel_rfl
@[simp] theorem tbytes_117 : tbytes Try.prog 117 = some 8 := by kernel_rfl
@[simp] theorem tzeroV_117 : tzeroV Try.prog 117 = some (.val .nilFunc) := by kernel_rfl
@[simp] theorem tzero_117 : tzero Try.prog 117 = some [.val .nilFunc] := by kernel_rfl
attribute [simp] Try.underlying117
@[simp] theorem tsize_118 : tsize Try.prog 118 = some 1 := by kernel_rfl
@[simp] theorem tbytes_118 : tbytes Try.prog 118 = some 8 := by kernel_rfl
@[simp] theorem tzeroV_118 : tzeroV Try.prog 118 = some (.val (.pointer none)) := by kernel_rfl
@[simp] theorem tzero_118 : tzero Try.prog 118 = some [.val (.pointer none)] := by kernel_rfl
attribute [simp] Try.underlying118
@[simp] theorem tsize_119 : tsize Try.prog 119 = some 1 := by kernel_rfl
@[simp] theorem tbytes_119 : tbytes Try.prog 119 = some 8 := by kernel_rfl
@[simp] theorem tzeroV_119 : tzeroV Try.prog 119 = some (.val .nilFunc) := by kernel_rfl
@[simp] theorem tzero_119 : tzero Try.prog 119 = some [.val .nilFunc] := by kernel_rfl
attribute [simp] Try.underlying119
@[simp] theorem tsize_120 : tsize Try.prog 120 = some 1 := by kernel_rfl
@[simp] theorem tbytes_120 : tbytes Try.prog 120 = some 8 := by kernel_rfl
@[simp] theorem tzeroV_120 : tzeroV Try.prog 120 = some (.val (.pointer none)) := by kernel_rfl
@[simp] theorem tzero_120 : tzero Try.prog 120 = some [.val (.pointer none)] := by kernel_rfl
attribute [simp] Try.underlying120
@[simp] theorem tsize_122 : tsize Try.prog 122 = some 1 := by kernel_rfl
@[simp] theorem tbytes_122 : tbytes Try.prog 122 = some 8 := by kernel_rfl
@[simp] theorem tzeroV_122 : tzeroV Try.prog 122 = some (.val .nilFunc) := by kernel_rfl
@[simp] theorem tzero_122 : tzero Try.prog 122 = some [.val .nilFunc] := by kernel_rfl
attribute [simp] Try.underlying122
@[simp] theorem tsize_123 : tsize Try.prog 123 = some 1 := by kernel_rfl
@[simp] theorem tbytes_123 : tbytes Try.prog 123 = some 8 := by kernel_rfl
@[simp] theorem tzeroV_123 : tzeroV Try.prog 123 = some (.val .nilFunc) := by kernel_rfl
@[simp] theorem tzero_123 : tzero Try.prog 123 = some [.val .nilFunc] := by kernel_rfl
attribute [simp] Try.underlying123
@[simp] theorem tsize_124 : tsize Try.prog 124 = some 4 := by kernel_rfl
@[simp] theorem tbytes_124 : tbytes Try.prog 124 = some 40 := by kernel_rfl
@[simp] theorem tzeroV_124 : tzeroV Try.prog 124 = some (.agg [.val (.pointer none), .val (.pointer none), .val (.pointer none), .val (.string ⟨#[]⟩)]) := by kernel_rfl
@[simp] theorem tzero_124 : tzero Try.prog 124 = some [.val (.pointer none), .val (.pointer none), .val (.pointer none), .val (.string ⟨#[]⟩)] := by kernel_rfl
attribute [simp] Try.underlying124
@[simp] theorem tsize_125 : tsize Try.prog 125 = some 4 := by kernel_rfl
@[simp] theorem tbytes_125 : tbytes Try.prog 125 = some 40 := by kernel_rfl
@[simp] theorem tzeroV_125 : tzeroV Try.prog 125 = some (.agg [.val (.pointer none), .val (.pointer none), .val (.pointer none), .val (.string ⟨#[]⟩)]) := by kernel_rfl
@[simp] theorem tzero_125 : tzero Try.prog 125 = some [.val (.pointer none), .val (.pointer none), .val (.pointer none), .val (.string ⟨#[]⟩)] := by kernel_rfl
attribute [simp] Try.underlying125
@[simp] theorem tsize_126 : tsize Try.prog 126 = some 0 := by kernel_rfl
@[simp] theorem tbytes_126 : tbytes Try.prog 126 = some 0 := by kernel_rfl
@[simp] theorem tzeroV_126 : tzeroV Try.prog 126 = some (.agg []) := by kernel_rfl
@[simp] theorem tzero_126 : tzero Try.prog 126 = some [] := by kernel_rfl
attribute [simp] Try.underlying126
@[simp] theorem tsize_127 : tsize Try.prog 127 = some 0 := by kernel_rfl
@[simp] theorem tbytes_127 : tbytes Try.prog 127 = some 0 := by kernel_rfl
@[simp] theorem tzeroV_127 : tzeroV Try.prog 127 = some (.agg []) := by kernel_rfl
@[simp] theorem tzero_127 : tzero Try.prog 127 = some [] := by kernel_rfl
attribute [simp] Try.underlying127
@[simp] theorem tsize_128 : tsize Try.prog 128 = some 0 := by kernel_rfl
@[simp] theorem tbytes_128 : tbytes Try.prog 128 = some 0 := by kernel_rfl
@[simp] theorem tzeroV_128 : tzeroV Try.prog 128 = some (.agg []) := by kernel_rfl
@[simp] theorem tzero_128 : tzero Try.prog 128 = some [] := by kernel_rfl
attribute [simp] Try.underlying128
@[simp] theorem tsize_129 : tsize Try.prog 129 = some 1 := by kernel_rfl
@[simp] theorem tbytes_129 : tbytes Try.prog 129 = some 8 := by kernel_rfl
@[simp] theorem tzeroV_129 : tzeroV Try.prog 129 = some (.val .nilFunc) := by kernel_rfl
@[simp] theorem tzero_129 : tzero Try.prog 129 = some [.val .nilFunc] := by kernel_rfl
attribute [simp] Try.underlying129
@[simp] theorem tsize_130 : tsize Try.prog 130 = some 1 := by kernel_rfl
@[simp] theorem tbytes_130 : tbytes Try.prog 130 = some 1 := by kernel_rfl
@[simp] theorem tzeroV_130 : tzeroV Try.prog 130 = some (.val (.int .u8 0)) := by kernel_rfl
@[simp] theorem tzero_130 : tzero Try.prog 130 = some [.val (.int .u8 0)] := by kernel_rfl
attribute [simp] Try.underlying130
@[simp] theorem tsize_131 : tsize Try.prog 131 = some 1 := by kernel_rfl
@[simp] theorem tbytes_131 : tbytes Try.prog 131 = some 1 := by kernel_rfl
@[simp] theorem tzeroV_131 : tzeroV Try.prog 131 = some (.val (.int .u8 0)) := by kernel_rfl
@[simp] theorem tzero_131 : tzero Try.prog 131 = some [.val (.int .u8 0)] := by kernel_rfl
attribute [simp] Try.underlying131
@[simp] theorem tsize_132 : tsize Try.prog 132 = some 1 := by kernel_rfl
@[simp] theorem tbytes_132 : tbytes Try.prog 132 = some 8 := by kernel_rfl
@[simp] theorem tzeroV_132 : tzeroV Try.prog 132 = some (.val .nilFunc) := by kernel_rfl
@[simp] theorem tzero_132 : tzero Try.prog 132 = some [.val .nilFunc] := by kernel_rfl
attribute [simp] Try.underlying132
@[simp] theorem tsize_133 : tsize Try.prog 133 = some 1 := by kernel_rfl
@[simp] theorem tbytes_133 : tbytes Try.prog 133 = some 8 := by kernel_rfl
@[simp] theorem tzeroV_133 : tzeroV Try.prog 133 = some (.val (.pointer none)) := by kernel_rfl
@[simp] theorem tzero_133 : tzero Try.prog 133 = some [.val (.pointer none)] := by kernel_rfl
attribute [simp] Try.underlying133
@[simp] theorem tsize_134 : tsize Try.prog 134 = some 1 := by kernel_rfl
@[simp] theorem tbytes_134 : tbytes Try.prog 134 = some 4 := by kernel_rfl
@[simp] theorem tzeroV_134 : tzeroV Try.prog 134 = some (.val (.int .i32 0)) := by kernel_rfl
@[simp] theorem tzero_134 : tzero Try.prog 134 = some [.val (.int .i32 0)] := by kernel_rfl
attribute [simp] Try.underlying134
@[simp] theorem tsize_135 : tsize Try.prog 135 = some 1 := by kernel_rfl
@[simp] theorem tbytes_135 : tbytes Try.prog 135 = some 4 := by kernel_rfl
@[simp] theorem tzeroV_135 : tzeroV Try.prog 135 = some (.val (.int .i32 0)) := by kernel_rfl
@[simp] theorem tzero_135 : tzero Try.prog 135 = some [.val (.int .i32 0)] := by kernel_rfl
attribute [simp] Try.underlying135
@[simp] theorem tsize_136 : tsize Try.prog 136 = some 11 := by kernel_rfl
@[simp] theorem tbytes_136 : tbytes Try.prog 136 = some 48 := by kernel_rfl
@[simp] theorem tzeroV_136 : tzeroV Try.prog 136 = some (.agg [.val (.int .u64 0), .val (.int .u64 0), .val (.int .u32 0), .val (.int .u8 0), .val (.int .u8 0), .val (.int .u8 0), .val (.int .u8 0), .val .nilFunc, .val (.pointer none), .val (.int .i32 0), .val (.int .i32 0)]) := by kernel_rfl
@[simp] theorem tzero_136 : tzero Try.prog 136 = some [.val (.int .u64 0), .val (.int .u64 0), .val (.int .u32 0), .val (.int .u8 0), .val (.int .u8 0), .val (.int .u8 0), .val (.int .u8 0), .val .nilFunc, .val (.pointer none), .val (.int .i32 0), .val (.int .i32 0)] := by kernel_rfl
attribute [simp] Try.underlying136
@[simp] theorem tsize_137 : tsize Try.prog 137 = some 11 := by kernel_rfl
@[simp] theorem tbytes_137 : tbytes Try.prog 137 = some 48 := by kernel_rfl
@[simp] theorem tzeroV_137 : tzeroV Try.prog 137 = some (.agg [.val (.int .u64 0), .val (.int .u64 0), .val (.int .u32 0), .val (.int .u8 0), .val (.int .u8 0), .val (.int .u8 0), .val (.int .u8 0), .val .nilFunc, .val (.pointer none), .val (.int .i32 0), .val (.int .i32 0)]) := by kernel_rfl
@[simp] theorem tzero_137 : tzero Try.prog 137 = some [.val (.int .u64 0), .val (.int .u64 0), .val (.int .u32 0), .val (.int .u8 0), .val (.int .u8 0), .val (.int .u8 0), .val (.int .u8 0), .val .nilFunc, .val (.pointer none), .val (.int .i32 0), .val (.int .i32 0)] := by kernel_rfl
attribute [simp] Try.underlying137
@[simp] theorem tsize_138 : tsize Try.prog 138 = some 1 := by kernel_rfl
@[simp] theorem tbytes_138 : tbytes Try.prog 138 = some 8 := by kernel_rfl
@[simp] theorem tzeroV_138 : tzeroV Try.prog 138 = some (.val (.pointer none)) := by kernel_rfl
@[simp] theorem tzero_138 : tzero Try.prog 138 = some [.val (.pointer none)] := by kernel_rfl
attribute [simp] Try.underlying138
@[simp] theorem enters_2 : entersB Try.prog 2 = true := by kernel_rfl
@[simp] theorem enters_3 : entersB Try.prog 3 = true := by kernel_rfl
@[simp] theorem enters_4 : entersB Try.prog 4 = true := by kernel_rfl
@[simp] theorem enters_5 : entersB Try.prog 5 = true := by kernel_rfl
@[simp] theorem enters_6 : entersB Try.prog 6 = true := by kernel_rfl
@[simp] theorem enters_7 : entersB Try.prog 7 = true := by kernel_rfl
@[simp] theorem enters_8 : entersB Try.prog 8 = true := by kernel_rfl
@[simp] theorem enters_9 : entersB Try.prog 9 = true := by kernel_rfl
@[simp] theorem enters_10 : entersB Try.prog 10 = true := by kernel_rfl
@[simp] theorem enters_11 : entersB Try.prog 11 = true := by kernel_rfl
@[simp] theorem enters_12 : entersB Try.prog 12 = true := by kernel_rfl
@[simp] theorem enters_13 : entersB Try.prog 13 = true := by kernel_rfl
@[simp] theorem enters_14 : entersB Try.prog 14 = true := by kernel_rfl
@[simp] theorem enters_15 : entersB Try.prog 15 = true := by kernel_rfl
@[simp] theorem enters_16 : entersB Try.prog 16 = true := by kernel_rfl
@[simp] theorem enters_17 : entersB Try.prog 17 = true := by kernel_rfl
@[simp] theorem enters_18 : entersB Try.prog 18 = true := by kernel_rfl
@[simp] theorem enters_19 : entersB Try.prog 19 = true := by kernel_rfl
@[simp] theorem enters_20 : entersB Try.prog 20 = true := by kernel_rfl
@[simp] theorem enters_21 : entersB Try.prog 21 = true := by kernel_rfl
@[simp] theorem enters_22 : entersB Try.prog 22 = true := by kernel_rfl
@[simp] theorem enters_23 : entersB Try.prog 23 = true := by kernel_rfl
@[simp] theorem enters_24 : entersB Try.prog 24 = true := by kernel_rfl
@[simp] theorem enters_25 : entersB Try.prog 25 = true := by kernel_rfl
@[simp] theorem enters_26 : entersB Try.prog 26 = true := by kernel_rfl
@[simp] theorem enters_27 : entersB Try.prog 27 = true := by kernel_rfl
@[simp] theorem enters_28 : entersB Try.prog 28 = true := by kernel_rfl
@[simp] theorem enters_29 : entersB Try.prog 29 = true := by kernel_rfl
@[simp] theorem enters_30 : entersB Try.prog 30 = true := by kernel_rfl
@[simp] theorem enters_31 : entersB Try.prog 31 = true := by kernel_rfl
@[simp] theorem enters_32 : entersB Try.prog 32 = true := by kernel_rfl
@[simp] theorem enters_33 : entersB Try.prog 33 = true := by kernel_rfl
@[simp] theorem enters_34 : entersB Try.prog 34 = true := by kernel_rfl
@[simp] theorem enters_35 : entersB Try.prog 35 = true := by kernel_rfl
@[simp] theorem enters_36 : entersB Try.prog 36 = true := by kernel_rfl
@[simp] theorem enters_37 : entersB Try.prog 37 = true := by kernel_rfl
@[simp] theorem enters_38 : entersB Try.prog 38 = true := by kernel_rfl
@[simp] theorem enters_39 : entersB Try.prog 39 = true := by kernel_rfl
@[simp] theorem enters_40 : entersB Try.prog 40 = true := by kernel_rfl
@[simp] theorem enters_41 : entersB Try.prog 41 = true := by kernel_rfl
@[simp] theorem enters_42 : entersB Try.prog 42 = true := by kernel_rfl
@[simp] theorem enters_43 : entersB Try.prog 43 = true := by kernel_rfl
@[simp] theorem enters_44 : entersB Try.prog 44 = true := by kernel_rfl
@[simp] theorem enters_45 : entersB Try.prog 45 = true := by kernel_rfl
@[simp] theorem enters_46 : entersB Try.prog 46 = true := by kernel_rfl
@[simp] theorem enters_47 : entersB Try.prog 47 = true := by kernel_rfl
@[simp] theorem enters_48 : entersB Try.prog 48 = true := by kernel_rfl
@[simp] theorem enters_49 : entersB Try.prog 49 = true := by kernel_rfl
@[simp] theorem enters_50 : entersB Try.prog 50 = true := by kernel_rfl
@[simp] theorem enters_51 : entersB Try.prog 51 = true := by kernel_rfl
@[simp] theorem enters_52 : entersB Try.prog 52 = true := by kernel_rfl
@[simp] theorem enters_53 : entersB Try.prog 53 = true := by kernel_rfl
@[simp] theorem enters_54 : entersB Try.prog 54 = true := by kernel_rfl
@[simp] theorem enters_55 : entersB Try.prog 55 = true := by kernel_rfl
@[simp] theorem enters_56 : entersB Try.prog 56 = true := by kernel_rfl
@[simp] theorem enters_57 : entersB Try.prog 57 = true := by kernel_rfl
@[simp] theorem enters_58 : entersB Try.prog 58 = true := by kernel_rfl
@[simp] theorem enters_59 : entersB Try.prog 59 = true := by kernel_rfl
@[simp] theorem enters_60 : entersB Try.prog 60 = true := by kernel_rfl
@[simp] theorem enters_61 : entersB Try.prog 61 = true := by kernel_rfl
@[simp] theorem enters_62 : entersB Try.prog 62 = true := by kernel_rfl
@[simp] theorem enters_63 : entersB Try.prog 63 = true := by kernel_rfl
@[simp] theorem enters_64 : entersB Try.prog 64 = true := by kernel_rfl
@[simp] theorem enters_65 : entersB Try.prog 65 = true := by kernel_rfl
@[simp] theorem enters_66 : entersB Try.prog 66 = true := by kernel_rfl
@[simp] theorem enters_67 : entersB Try.prog 67 = true := by kernel_rfl
@[simp] theorem enters_68 : entersB Try.prog 68 = true := by kernel_rfl
@[simp] theorem enters_69 : entersB Try.prog 69 = true := by kernel_rfl
@[simp] theorem enters_71 : entersB Try.prog 71 = true := by kernel_rfl
@[simp] theorem enters_72 : entersB Try.prog 72 = true := by kernel_rfl
@[simp] theorem enters_73 : entersB Try.prog 73 = true := by kernel_rfl
@[simp] theorem enters_74 : entersB Try.prog 74 = true := by kernel_rfl
@[simp] theorem enters_75 : entersB Try.prog 75 = true := by kernel_rfl
@[simp] theorem enters_76 : entersB Try.prog 76 = true := by kernel_rfl
@[simp] theorem enters_77 : entersB Try.prog 77 = true := by kernel_rfl
@[simp] theorem enters_78 : entersB Try.prog 78 = true := by kernel_rfl
@[simp] theorem enters_79 : entersB Try.prog 79 = true := by kernel_rfl
@[simp] theorem enters_80 : entersB Try.prog 80 = true := by kernel_rfl
@[simp] theorem enters_81 : entersB Try.prog 81 = true := by kernel_rfl
@[simp] theorem enters_82 : entersB Try.prog 82 = true := by kernel_rfl
@[simp] theorem enters_83 : entersB Try.prog 83 = true := by kernel_rfl
@[simp] theorem enters_84 : entersB Try.prog 84 = true := by kernel_rfl
@[simp] theorem enters_85 : entersB Try.prog 85 = true := by kernel_rfl
@[simp] theorem enters_86 : entersB Try.prog 86 = true := by kernel_rfl
@[simp] theorem enters_87 : entersB Try.prog 87 = true := by kernel_rfl
@[simp] theorem enters_88 : entersB Try.prog 88 = true := by kernel_rfl
@[simp] theorem enters_89 : entersB Try.prog 89 = true := by kernel_rfl
@[simp] theorem enters_90 : entersB Try.prog 90 = true := by kernel_rfl
@[simp] theorem enters_91 : entersB Try.prog 91 = true := by kernel_rfl
@[simp] theorem enters_92 : entersB Try.prog 92 = true := by kernel_rfl
@[simp] theorem enters_93 : entersB Try.prog 93 = true := by kernel_rfl
@[simp] theorem enters_94 : entersB Try.prog 94 = true := by kernel_rfl
@[simp] theorem enters_95 : entersB Try.prog 95 = true := by kernel_rfl
@[simp] theorem enters_96 : entersB Try.prog 96 = true := by kernel_rfl
@[simp] theorem enters_97 : entersB Try.prog 97 = true := by kernel_rfl
@[simp] theorem follows_mixed : Try.prog.follows .mixedOrders = true := by kernel_rfl
end Go.Proofs.Ytipolblhiljoiaa.Sy
