/- Sy: facts about the types and the functions of the program, for simp. -/
import Derived.Test.YtmddhiokioojlaaSyTwo
namespace Go.Proofs.Ytmddhiokioojlaa.Sy
open Go Go.RowKit
@[simp] theorem tsize_1 : tsize Try.prog 1 = some 1 := by kernel_rfl
@[simp] theorem tbytes_1 : tbytes Try.prog 1 = some 8 := by kernel_rfl
@[simp] theorem tzeroV_1 : tzeroV Try.prog 1 = some (.val .nilFunc) := by kernel_rfl
@[simp] theorem tzero_1 : tzero Try.prog 1 = some [.val .nilFunc] := by kernel_rfl
attribute [simp] Try.underlying1
@[simp] theorem tsize_2 : tsize Try.prog 2 = some 1 := by kernel_rfl
@[simp] theorem tbytes_2 : tbytes Try.prog 2 = some 8 := by kernel_rfl
@[simp] theorem tzeroV_2 : tzeroV Try.prog 2 = some (.val (.int .i64 0)) := by kernel_rfl
@[simp] theorem tzero_2 : tzero Try.prog 2 = some [.val (.int .i64 0)] := by kernel_rfl
attribute [simp] Try.underlying2
@[simp] theorem tsize_3 : tsize Try.prog 3 = some 1 := by kernel_rfl
@[simp] theorem tbytes_3 : tbytes Try.prog 3 = some 8 := by kernel_rfl
@[simp] theorem tzeroV_3 : tzeroV Try.prog 3 = some (.val (.int .i64 0)) := by kernel_rfl
@[simp] theorem tzero_3 : tzero Try.prog 3 = some [.val (.int .i64 0)] := by kernel_rfl
attribute [simp] Try.underlying3
@[simp] theorem tsize_4 : tsize Try.prog 4 = some 1 := by kernel_rfl
@[simp] theorem tbytes_4 : tbytes Try.prog 4 = some 1 := by kernel_rfl
@[simp] theorem tzeroV_4 : tzeroV Try.prog 4 = some (.val (.bool false)) := by kernel_rfl
@[simp] theorem tzero_4 : tzero Try.prog 4 = some [.val (.bool false)] := by kernel_rfl
attribute [simp] Try.underlying4
@[simp] theorem tsize_5 : tsize Try.prog 5 = some 1 := by kernel_rfl
@[simp] theorem tbytes_5 : tbytes Try.prog 5 = some 1 := by kernel_rfl
@[simp] theorem tzeroV_5 : tzeroV Try.prog 5 = some (.val (.int .u8 0)) := by kernel_rfl
@[simp] theorem tzero_5 : tzero Try.prog 5 = some [.val (.int .u8 0)] := by kernel_rfl
attribute [simp] Try.underlying5
@[simp] theorem tsize_6 : tsize Try.prog 6 = some 1 := by kernel_rfl
@[simp] theorem tbytes_6 : tbytes Try.prog 6 = some 1 := by kernel_rfl
@[simp] theorem tzeroV_6 : tzeroV Try.prog 6 = some (.val (.int .u8 0)) := by kernel_rfl
@[simp] theorem tzero_6 : tzero Try.prog 6 = some [.val (.int .u8 0)] := by kernel_rfl
attribute [simp] Try.underlying6
@[simp] theorem tsize_7 : tsize Try.prog 7 = some 4 := by kernel_rfl
@[simp] theorem tbytes_7 : tbytes Try.prog 7 = some 24 := by kernel_rfl
@[simp] theorem tzeroV_7 : tzeroV Try.prog 7 = some (.agg [.val (.int .i64 0), .val (.int .i64 0), .val (.bool false), .val (.int .u8 0)]) := by kernel_rfl
@[simp] theorem tzero_7 : tzero Try.prog 7 = some [.val (.int .i64 0), .val (.int .i64 0), .val (.bool false), .val (.int .u8 0)] := by kernel_rfl
attribute [simp] Try.underlying7
@[simp] theorem tsize_8 : tsize Try.prog 8 = some 4 := by kernel_rfl
@[simp] theorem tbytes_8 : tbytes Try.prog 8 = some 24 := by kernel_rfl
@[simp] theorem tzeroV_8 : tzeroV Try.prog 8 = some (.agg [.val (.int .i64 0), .val (.int .i64 0), .val (.bool false), .val (.int .u8 0)]) := by kernel_rfl
@[simp] theorem tzero_8 : tzero Try.prog 8 = some [.val (.int .i64 0), .val (.int .i64 0), .val (.bool false), .val (.int .u8 0)] := by kernel_rfl
attribute [simp] Try.underlying8
@[simp] theorem tsize_9 : tsize Try.prog 9 = some 1 := by kernel_rfl
@[simp] theorem tbytes_9 : tbytes Try.prog 9 = some 16 := by kernel_rfl
@[simp] theorem tzeroV_9 : tzeroV Try.prog 9 = some (.val (.string ⟨#[]⟩)) := by kernel_rfl
@[simp] theorem tzero_9 : tzero Try.prog 9 = some [.val (.string ⟨#[]⟩)] := by kernel_rfl
attribute [simp] Try.underlying9
@[simp] theorem tsize_10 : tsize Try.prog 10 = some 1 := by kernel_rfl
@[simp] theorem tbytes_10 : tbytes Try.prog 10 = some 16 := by kernel_rfl
@[simp] theorem tzeroV_10 : tzeroV Try.prog 10 = some (.val (.string ⟨#[]⟩)) := by kernel_rfl
@[simp] theorem tzero_10 : tzero Try.prog 10 = some [.val (.string ⟨#[]⟩)] := by kernel_rfl
attribute [simp] Try.underlying10
@[simp] theorem tsize_11 : tsize Try.prog 11 = some 1 := by kernel_rfl
@[simp] theorem tbytes_11 : tbytes Try.prog 11 = some 16 := by kernel_rfl
@[simp] theorem tzeroV_11 : tzeroV Try.prog 11 = some (.val (.string ⟨#[]⟩)) := by kernel_rfl
@[simp] theorem tzero_11 : tzero Try.prog 11 = some [.val (.string ⟨#[]⟩)] := by kernel_rfl
attribute [simp] Try.underlying11
@[simp] theorem tsize_12 : tsize Try.prog 12 = some 1 := by kernel_rfl
@[simp] theorem tbytes_12 : tbytes Try.prog 12 = some 8 := by kernel_rfl
@[simp] theorem tzeroV_12 : tzeroV Try.prog 12 = some (.val (.int .u64 0)) := by kernel_rfl
@[simp] theorem tzero_12 : tzero Try.prog 12 = some [.val (.int .u64 0)] := by kernel_rfl
attribute [simp] Try.underlying12
@[simp] theorem tsize_13 : tsize Try.prog 13 = some 2 := by kernel_rfl
@[simp] theorem tbytes_13 : tbytes Try.prog 13 = some 24 := by kernel_rfl
@[simp] theorem tzeroV_13 : tzeroV Try.prog 13 = some (.agg [.val (.string ⟨#[]⟩), .val (.int .u64 0)]) := by kernel_rfl
@[simp] theorem tzero_13 : tzero Try.prog 13 = some [.val (.string ⟨#[]⟩), .val (.int .u64 0)] := by kernel_rfl
attribute [simp] Try.underlying13
@[simp] theorem tsize_14 : tsize Try.prog 14 = some 2 := by kernel_rfl
@[simp] theorem tbytes_14 : tbytes Try.prog 14 = some 24 := by kernel_rfl
@[simp] theorem tzeroV_14 : tzeroV Try.prog 14 = some (.agg [.val (.string ⟨#[]⟩), .val (.int .u64 0)]) := by kernel_rfl
@[simp] theorem tzero_14 : tzero Try.prog 14 = some [.val (.string ⟨#[]⟩), .val (.int .u64 0)] := by kernel_rfl
attribute [simp] Try.underlying14
@[simp] theorem tsize_15 : tsize Try.prog 15 = some 1 := by kernel_rfl
@[simp] theorem tbytes_15 : tbytes Try.prog 15 = some 8 := by kernel_rfl
@[simp] theorem tzeroV_15 : tzeroV Try.prog 15 = some (.val (.pointer none)) := by kernel_rfl
@[simp] theorem tzero_15 : tzero Try.prog 15 = some [.val (.pointer none)] := by kernel_rfl
attribute [simp] Try.underlying15
@[simp] theorem tsize_16 : tsize Try.prog 16 = some 1 := by kernel_rfl
@[simp] theorem tbytes_16 : tbytes Try.prog 16 = some 8 := by kernel_rfl
@[simp] theorem tzeroV_16 : tzeroV Try.prog 16 = some (.val (.pointer none)) := by kernel_rfl
@[simp] theorem tzero_16 : tzero Try.prog 16 = some [.val (.pointer none)] := by kernel_rfl
attribute [simp] Try.underlying16
@[simp] theorem tsize_17 : tsize Try.prog 17 = some 1 := by kernel_rfl
@[simp] theorem tbytes_17 : tbytes Try.prog 17 = some 8 := by kernel_rfl
@[simp] theorem tzeroV_17 : tzeroV Try.prog 17 = some (.val (.pointer none)) := by kernel_rfl
@[simp] theorem tzero_17 : tzero Try.prog 17 = some [.val (.pointer none)] := by kernel_rfl
attribute [simp] Try.underlying17
@[simp] theorem tsize_18 : tsize Try.prog 18 = some 1 := by kernel_rfl
@[simp] theorem tbytes_18 : tbytes Try.prog 18 = some 8 := by kernel_rfl
@[simp] theorem tzeroV_18 : tzeroV Try.prog 18 = some (.agg [.val (.pointer none)]) := by kernel_rfl
@[simp] theorem tzero_18 : tzero Try.prog 18 = some [.val (.pointer none)] := by kernel_rfl
attribute [simp] Try.underlying18
@[simp] theorem tsize_19 : tsize Try.prog 19 = some 1 := by kernel_rfl
@[simp] theorem tbytes_19 : tbytes Try.prog 19 = some 8 := by kernel_rfl
@[simp] theorem tzeroV_19 : tzeroV Try.prog 19 = some (.agg [.val (.pointer none)]) := by kernel_rfl
@[simp] theorem tzero_19 : tzero Try.prog 19 = some [.val (.pointer none)] := by kernel_rfl
attribute [simp] Try.underlying19
@[simp] theorem tsize_20 : tsize Try.prog 20 = some 1 := by kernel_rfl
@[simp] theorem tbytes_20 : tbytes Try.prog 20 = some 16 := by kernel_rfl
@[simp] theorem tzeroV_20 : tzeroV Try.prog 20 = some (.val .nilIface) := by kernel_rfl
@[simp] theorem tzero_20 : tzero Try.prog 20 = some [.val .nilIface] := by kernel_rfl
attribute [simp] Try.underlying20
@[simp] theorem tsize_21 : tsize Try.prog 21 = some 1 := by kernel_rfl
@[simp] theorem tbytes_21 : tbytes Try.prog 21 = some 4 := by kernel_rfl
@[simp] theorem tzeroV_21 : tzeroV Try.prog 21 = some (.val (.int .i32 0)) := by kernel_rfl
@[simp] theorem tzero_21 : tzero Try.prog 21 = some [.val (.int .i32 0)] := by kernel_rfl
attribute [simp] Try.underlying21
@[simp] theorem tsize_22 : tsize Try.prog 22 = some 1 := by kernel_rfl
@[simp] theorem tbytes_22 : tbytes Try.prog 22 = some 24 := by kernel_rfl
@[simp] theorem tzeroV_22 : tzeroV Try.prog 22 = some (.val (.slice none 0 0)) := by kernel_rfl
@[simp] theorem tzero_22 : tzero Try.prog 22 = some [.val (.slice none 0 0)] := by kernel_rfl
attribute [simp] Try.underlying22
@[simp] theorem tsize_23 : tsize Try.prog 23 = some 2 := by kernel_rfl
@[simp] theorem tbytes_23 : tbytes Try.prog 23 = some 24 := by kernel_rfl
@[simp] theorem tzeroV_23 : tzeroV Try.prog 23 = some (.agg [.val (.string ⟨#[]⟩), .val (.int .i64 0)]) := by kernel_rfl
@[simp] theorem tzero_23 : tzero Try.prog 23 = some [.val (.string ⟨#[]⟩), .val (.int .i64 0)] := by kernel_rfl
attribute [simp] Try.underlying23
@[simp] theorem tsize_24 : tsize Try.prog 24 = some 2 := by kernel_rfl
@[simp] theorem tbytes_24 : tbytes Try.prog 24 = some 24 := by kernel_rfl
@[simp] theorem tzeroV_24 : tzeroV Try.prog 24 = some (.agg [.val (.string ⟨#[]⟩), .val (.int .i64 0)]) := by kernel_rfl
@[simp] theorem tzero_24 : tzero Try.prog 24 = some [.val (.string ⟨#[]⟩), .val (.int .i64 0)] := by kernel_rfl
attribute [simp] Try.underlying24
@[simp] theorem held_24 : Try.prog.stoodInHeld 24 = false := by kernel_rfl
@[simp] theorem guard_24 : Try.prog.eqGuardType Try.prog.depth 24 = false := by kernel_rfl
@[simp] theorem tsize_25 : tsize Try.prog 25 = some 1 := by kernel_rfl
@[simp] theorem tbytes_25 : tbytes Try.prog 25 = some 8 := by kernel_rfl
@[simp] theorem tzeroV_25 : tzeroV Try.prog 25 = some (.val .nilFunc) := by kernel_rfl
@[simp] theorem tzero_25 : tzero Try.prog 25 = some [.val .nilFunc] := by kernel_rfl
attribute [simp] Try.underlying25
@[simp] theorem tsize_26 : tsize Try.prog 26 = some 1 := by kernel_rfl
@[simp] theorem tbytes_26 : tbytes Try.prog 26 = some 8 := by kernel_rfl
@[simp] theorem tzeroV_26 : tzeroV Try.prog 26 = some (.val .nilFunc) := by kernel_rfl
@[simp] theorem tzero_26 : tzero Try.prog 26 = some [.val .nilFunc] := by kernel_rfl
attribute [simp] Try.underlying26
@[simp] theorem tsize_27 : tsize Try.prog 27 = some 1 := by kernel_rfl
@[simp] theorem tbytes_27 : tbytes Try.prog 27 = some 24 := by kernel_rfl
@[simp] theorem tzeroV_27 : tzeroV Try.prog 27 = some (.val (.slice none 0 0)) := by kernel_rfl
@[simp] theorem tzero_27 : tzero Try.prog 27 = some [.val (.slice none 0 0)] := by kernel_rfl
attribute [simp] Try.underlying27
@[simp] theorem tsize_28 : tsize Try.prog 28 = some 1 := by kernel_rfl
@[simp] theorem tbytes_28 : tbytes Try.prog 28 = some 8 := by kernel_rfl
@[simp] theorem tzeroV_28 : tzeroV Try.prog 28 = some (.val (.int .i64 0)) := by kernel_rfl
@[simp] theorem tzero_28 : tzero Try.prog 28 = some [.val (.int .i64 0)] := by kernel_rfl
attribute [simp] Try.underlying28
@[simp] theorem tsize_30 : tsize Try.prog 30 = some 1 := by kernel_rfl
@[simp] theorem tbytes_30 : tbytes Try.prog 30 = some 8 := by kernel_rfl
@[simp] theorem tzeroV_30 : tzeroV Try.prog 30 = some (.val .nilFunc) := by kernel_rfl
@[simp] theorem tzero_30 : tzero Try.prog 30 = some [.val .nilFunc] := by kernel_rfl
attribute [simp] Try.underlying30
@[simp] theorem tsize_31 : tsize Try.prog 31 = some 1 := by kernel_rfl
@[simp] theorem tbytes_31 : tbytes Try.prog 31 = some 8 := by kernel_rfl
@[simp] theorem tzeroV_31 : tzeroV Try.prog 31 = some (.val .nilFunc) := by kernel_rfl
@[simp] theorem tzero_31 : tzero Try.prog 31 = some [.val .nilFunc] := by kernel_rfl
attribute [simp] Try.underlying31
@[simp] theorem tsize_32 : tsize Try.prog 32 = some 1 := by kernel_rfl
@[simp] theorem tbytes_32 : tbytes Try.prog 32 = some 8 := by kernel_rfl
@[simp] theorem tzeroV_32 : tzeroV Try.prog 32 = some (.val .nilFunc) := by kernel_rfl
@[simp] theorem tzero_32 : tzero Try.prog 32 = some [.val .nilFunc] := by kernel_rfl
attribute [simp] Try.underlying32
@[simp] theorem tsize_33 : tsize Try.prog 33 = some 1 := by kernel_rfl
@[simp] theorem tbytes_33 : tbytes Try.prog 33 = some 8 := by kernel_rfl
@[simp] theorem tzeroV_33 : tzeroV Try.prog 33 = some (.val .nilFunc) := by kernel_rfl
@[simp] theorem tzero_33 : tzero Try.prog 33 = some [.val .nilFunc] := by kernel_rfl
attribute [simp] Try.underlying33
@[simp] theorem tsize_34 : tsize Try.prog 34 = some 1 := by kernel_rfl
@[simp] theorem tbytes_34 : tbytes Try.prog 34 = some 8 := by kernel_rfl
@[simp] theorem tzeroV_34 : tzeroV Try.prog 34 = some (.val .nilFunc) := by kernel_rfl
@[simp] theorem tzero_34 : tzero Try.prog 34 = some [.val .nilFunc] := by kernel_rfl
attribute [simp] Try.underlying34
@[simp] theorem tsize_35 : tsize Try.prog 35 = some 1 := by kernel_rfl
@[simp] theorem tbytes_35 : tbytes Try.prog 35 = some 24 := by kernel_rfl
@[simp] theorem tzeroV_35 : tzeroV Try.prog 35 = some (.val (.slice none 0 0)) := by kernel_rfl
@[simp] theorem tzero_35 : tzero Try.prog 35 = some [.val (.slice none 0 0)] := by kernel_rfl
attribute [simp] Try.underlying35
@[simp] theorem tsize_37 : tsize Try.prog 37 = some 1 := by kernel_rfl
@[simp] theorem tbytes_37 : tbytes Try.prog 37 = some 8 := by kernel_rfl
@[simp] theorem tzeroV_37 : tzeroV Try.prog 37 = some (.val .nilFunc) := by kernel_rfl
@[simp] theorem tzero_37 : tzero Try.prog 37 = some [.val .nilFunc] := by kernel_rfl
attribute [simp] Try.underlying37
@[simp] theorem tsize_38 : tsize Try.prog 38 = some 1 := by kernel_rfl
@[simp] theorem tbytes_38 : tbytes Try.prog 38 = some 8 := by kernel_rfl
@[simp] theorem tzeroV_38 : tzeroV Try.prog 38 = some (.val .nilFunc) := by kernel_rfl
@[simp] theorem tzero_38 : tzero Try.prog 38 = some [.val .nilFunc] := by kernel_rfl
attribute [simp] Try.underlying38
@[simp] theorem tsize_40 : tsize Try.prog 40 = some 1 := by kernel_rfl
@[simp] theorem tbytes_40 : tbytes Try.prog 40 = some 8 := by kernel_rfl
@[simp] theorem tzeroV_40 : tzeroV Try.prog 40 = some (.val .nilFunc) := by kernel_rfl
@[simp] theorem tzero_40 : tzero Try.prog 40 = some [.val .nilFunc] := by kernel_rfl
attribute [simp] Try.underlying40
@[simp] theorem tsize_42 : tsize Try.prog 42 = some 1 := by kernel_rfl
@[simp] theorem tbytes_42 : tbytes Try.prog 42 = some 8 := by kernel_rfl
@[simp] theorem tzeroV_42 : tzeroV Try.prog 42 = some (.val .nilFunc) := by kernel_rfl
@[simp] theorem tzero_42 : tzero Try.prog 42 = some [.val .nilFunc] := by kernel_rfl
attribute [simp] Try.underlying42
@[simp] theorem tsize_43 : tsize Try.prog 43 = some 1 := by kernel_rfl
@[simp] theorem tbytes_43 : tbytes Try.prog 43 = some 8 := by kernel_rfl
@[simp] theorem tzeroV_43 : tzeroV Try.prog 43 = some (.val .nilFunc) := by kernel_rfl
@[simp] theorem tzero_43 : tzero Try.prog 43 = some [.val .nilFunc] := by kernel_rfl
attribute [simp] Try.underlying43
@[simp] theorem tsize_44 : tsize Try.prog 44 = some 1 := by kernel_rfl
@[simp] theorem tbytes_44 : tbytes Try.prog 44 = some 8 := by kernel_rfl
@[simp] theorem tzeroV_44 : tzeroV Try.prog 44 = some (.val .nilFunc) := by kernel_rfl
@[simp] theorem tzero_44 : tzero Try.prog 44 = some [.val .nilFunc] := by kernel_rfl
attribute [simp] Try.underlying44
@[simp] theorem tsize_45 : tsize Try.prog 45 = some 1 := by kernel_rfl
@[simp] theorem tbytes_45 : tbytes Try.prog 45 = some 8 := by kernel_rfl
@[simp] theorem tzeroV_45 : tzeroV Try.prog 45 = some (.val .nilFunc) := by kernel_rfl
@[simp] theorem tzero_45 : tzero Try.prog 45 = some [.val .nilFunc] := by kernel_rfl
attribute [simp] Try.underlying45
@[simp] theorem tsize_46 : tsize Try.prog 46 = some 1 := by kernel_rfl
@[simp] theorem tbytes_46 : tbytes Try.prog 46 = some 8 := by kernel_rfl
@[simp] theorem tzeroV_46 : tzeroV Try.prog 46 = some (.val .nilFunc) := by kernel_rfl
@[simp] theorem tzero_46 : tzero Try.prog 46 = some [.val .nilFunc] := by kernel_rfl
attribute [simp] Try.underlying46
@[simp] theorem tsize_47 : tsize Try.prog 47 = some 1 := by kernel_rfl
@[simp] theorem tbytes_47 : tbytes Try.prog 47 = some 24 := by kernel_rfl
@[simp] theorem tzeroV_47 : tzeroV Try.prog 47 = some (.val (.slice none 0 0)) := by kernel_rfl
@[simp] theorem tzero_47 : tzero Try.prog 47 = some [.val (.slice none 0 0)] := by kernel_rfl
attribute [simp] Try.underlying47
@[simp] theorem tsize_48 : tsize Try.prog 48 = some 1 := by kernel_rfl
@[simp] theorem tbytes_48 : tbytes Try.prog 48 = some 8 := by kernel_rfl
@[simp] theorem tzeroV_48 : tzeroV Try.prog 48 = some (.val .nilFunc) := by kernel_rfl
@[simp] theorem tzero_48 : tzero Try.prog 48 = some [.val .nilFunc] := by kernel_rfl
attribute [simp] Try.underlying48
@[simp] theorem tsize_49 : tsize Try.prog 49 = some 1 := by kernel_rfl
@[simp] theorem tbytes_49 : tbytes Try.prog 49 = some 8 := by kernel_rfl
@[simp] theorem tzeroV_49 : tzeroV Try.prog 49 = some (.val .nilFunc) := by kernel_rfl
@[simp] theorem tzero_49 : tzero Try.prog 49 = some [.val .nilFunc] := by kernel_rfl
attribute [simp] Try.underlying49
@[simp] theorem tsize_50 : tsize Try.prog 50 = some 1 := by kernel_rfl
@[simp] theorem tbytes_50 : tbytes Try.prog 50 = some 8 := by kernel_rfl
@[simp] theorem tzeroV_50 : tzeroV Try.prog 50 = some (.val .nilFunc) := by kernel_rfl
@[simp] theorem tzero_50 : tzero Try.prog 50 = some [.val .nilFunc] := by kernel_rfl
attribute [simp] Try.underlying50
@[simp] theorem tsize_51 : tsize Try.prog 51 = some 1 := by kernel_rfl
@[simp] theorem tbytes_51 : tbytes Try.prog 51 = some 8 := by kernel_rfl
@[simp] theorem tzeroV_51 : tzeroV Try.prog 51 = some (.val (.int .u64 0)) := by kernel_rfl
@[simp] theorem tzero_51 : tzero Try.prog 51 = some [.val (.int .u64 0)] := by kernel_rfl
attribute [simp] Try.underlying51
@[simp] theorem tsize_52 : tsize Try.prog 52 = some 1 := by kernel_rfl
@[simp] theorem tbytes_52 : tbytes Try.prog 52 = some 8 := by kernel_rfl
@[simp] theorem tzeroV_52 : tzeroV Try.prog 52 = some (.val (.pointer none)) := by kernel_rfl
@[simp] theorem tzero_52 : tzero Try.prog 52 = some [.val (.pointer none)] := by kernel_rfl
attribute [simp] Try.underlying52
@[simp] theorem tsize_53 : tsize Try.prog 53 = some 2 := by kernel_rfl
@[simp] theorem tbytes_53 : tbytes Try.prog 53 = some 32 := by kernel_rfl
@[simp] theorem tzeroV_53 : tzeroV Try.prog 53 = some (.agg [.val (.pointer none), .val (.slice none 0 0)]) := by kernel_rfl
@[simp] theorem tzero_53 : tzero Try.prog 53 = some [.val (.pointer none), .val (.slice none 0 0)] := by kernel_rfl
attribute [simp] Try.underlying53
@[simp] theorem tsize_54 : tsize Try.prog 54 = some 2 := by kernel_rfl
@[simp] theorem tbytes_54 : tbytes Try.prog 54 = some 32 := by kernel_rfl
@[simp] theorem tzeroV_54 : tzeroV Try.prog 54 = some (.agg [.val (.pointer none), .val (.slice none 0 0)]) := by kernel_rfl
@[simp] theorem tzero_54 : tzero Try.prog 54 = some [.val (.pointer none), .val (.slice none 0 0)] := by kernel_rfl
attribute [simp] Try.underlying54
@[simp] theorem tsize_55 : tsize Try.prog 55 = some 1 := by kernel_rfl
@[simp] theorem tbytes_55 : tbytes Try.prog 55 = some 16 := by kernel_rfl
@[simp] theorem tzeroV_55 : tzeroV Try.prog 55 = some (.val .nilIface) := by kernel_rfl
@[simp] theorem tzero_55 : tzero Try.prog 55 = some [.val .nilIface] := by kernel_rfl
attribute [simp] Try.underlying55
@[simp] theorem tsize_56 : tsize Try.prog 56 = some 1 := by kernel_rfl
@[simp] theorem tbytes_56 : tbytes Try.prog 56 = some 16 := by kernel_rfl
@[simp] theorem tzeroV_56 : tzeroV Try.prog 56 = some (.val .nilIface) := by kernel_rfl
@[simp] theorem tzero_56 : tzero Try.prog 56 = some [.val .nilIface] := by kernel_rfl
attribute [simp] Try.underlying56
@[simp] theorem tsize_58 : tsize Try.prog 58 = some 1 := by kernel_rfl
@[simp] theorem tbytes_58 : tbytes Try.prog 58 = some 8 := by kernel_rfl
@[simp] theorem tzeroV_58 : tzeroV Try.prog 58 = some (.val .nilFunc) := by kernel_rfl
@[simp] theorem tzero_58 : tzero Try.prog 58 = some [.val .nilFunc] := by kernel_rfl
attribute [simp] Try.underlying58
@[simp] theorem tsize_59 : tsize Try.prog 59 = some 1 := by kernel_rfl
@[simp] theorem tbytes_59 : tbytes Try.prog 59 = some 8 := by kernel_rfl
@[simp] theorem tzeroV_59 : tzeroV Try.prog 59 = some (.val .nilFunc) := by kernel_rfl
@[simp] theorem tzero_59 : tzero Try.prog 59 = some [.val .nilFunc] := by kernel_rfl
attribute [simp] Try.underlying59
@[simp] theorem tsize_60 : tsize Try.prog 60 = some 1 := by kernel_rfl
@[simp] theorem tbytes_60 : tbytes Try.prog 60 = some 8 := by kernel_rfl
@[simp] theorem tzeroV_60 : tzeroV Try.prog 60 = some (.val .nilFunc) := by kernel_rfl
@[simp] theorem tzero_60 : tzero Try.prog 60 = some [.val .nilFunc] := by kernel_rfl
attribute [simp] Try.underlying60
@[simp] theorem tsize_61 : tsize Try.prog 61 = some 1 := by kernel_rfl
@[simp] theorem tbytes_61 : tbytes Try.prog 61 = some 8 := by kernel_rfl
@[simp] theorem tzeroV_61 : tzeroV Try.prog 61 = some (.val .nilFunc) := by kernel_rfl
@[simp] theorem tzero_61 : tzero Try.prog 61 = some [.val .nilFunc] := by kernel_rfl
attribute [simp] Try.underlying61
@[simp] theorem tsize_62 : tsize Try.prog 62 = some 1 := by kernel_rfl
@[simp] theorem tbytes_62 : tbytes Try.prog 62 = some 8 := by kernel_rfl
@[simp] theorem tzeroV_62 : tzeroV Try.prog 62 = some (.val .nilFunc) := by kernel_rfl
@[simp] theorem tzero_62 : tzero Try.prog 62 = some [.val .nilFunc] := by kernel_rfl
attribute [simp] Try.underlying62
@[simp] theorem tsize_63 : tsize Try.prog 63 = some 1 := by kernel_rfl
@[simp] theorem tbytes_63 : tbytes Try.prog 63 = some 8 := by kernel_rfl
@[simp] theorem tzeroV_63 : tzeroV Try.prog 63 = some (.val .nilFunc) := by kernel_rfl
@[simp] theorem tzero_63 : tzero Try.prog 63 = some [.val .nilFunc] := by kernel_rfl
attribute [simp] Try.underlying63
@[simp] theorem tsize_64 : tsize Try.prog 64 = some 1 := by kernel_rfl
@[simp] theorem tbytes_64 : tbytes Try.prog 64 = some 8 := by kernel_rfl
@[simp] theorem tzeroV_64 : tzeroV Try.prog 64 = some (.val .nilFunc) := by kernel_rfl
@[simp] theorem tzero_64 : tzero Try.prog 64 = some [.val .nilFunc] := by kernel_rfl
attribute [simp] Try.underlying64
@[simp] theorem tsize_65 : tsize Try.prog 65 = some 1 := by kernel_rfl
@[simp] theorem tbytes_65 : tbytes Try.prog 65 = some 8 := by kernel_rfl
@[simp] theorem tzeroV_65 : tzeroV Try.prog 65 = some (.val .nilFunc) := by kernel_rfl
@[simp] theorem tzero_65 : tzero Try.prog 65 = some [.val .nilFunc] := by kernel_rfl
attribute [simp] Try.underlying65
@[simp] theorem tsize_66 : tsize Try.prog 66 = some 1 := by kernel_rfl
@[simp] theorem tbytes_66 : tbytes Try.prog 66 = some 8 := by kernel_rfl
@[simp] theorem tzeroV_66 : tzeroV Try.prog 66 = some (.val .nilFunc) := by kernel_rfl
@[simp] theorem tzero_66 : tzero Try.prog 66 = some [.val .nilFunc] := by kernel_rfl
attribute [simp] Try.underlying66
@[simp] theorem tsize_67 : tsize Try.prog 67 = some 1 := by kernel_rfl
@[simp] theorem tbytes_67 : tbytes Try.prog 67 = some 8 := by kernel_rfl
@[simp] theorem tzeroV_67 : tzeroV Try.prog 67 = some (.val .nilFunc) := by kernel_rfl
@[simp] theorem tzero_67 : tzero Try.prog 67 = some [.val .nilFunc] := by kernel_rfl
attribute [simp] Try.underlying67
@[simp] theorem tsize_68 : tsize Try.prog 68 = some 1 := by kernel_rfl
@[simp] theorem tbytes_68 : tbytes Try.prog 68 = some 8 := by kernel_rfl
@[simp] theorem tzeroV_68 : tzeroV Try.prog 68 = some (.val .nilFunc) := by kernel_rfl
@[simp] theorem tzero_68 : tzero Try.prog 68 = some [.val .nilFunc] := by kernel_rfl
attribute [simp] Try.underlying68
@[simp] theorem tsize_69 : tsize Try.prog 69 = some 1 := by kernel_rfl
@[simp] theorem tbytes_69 : tbytes Try.prog 69 = some 8 := by kernel_rfl
@[simp] theorem tzeroV_69 : tzeroV Try.prog 69 = some (.val .nilFunc) := by kernel_rfl
@[simp] theorem tzero_69 : tzero Try.prog 69 = some [.val .nilFunc] := by kernel_rfl
attribute [simp] Try.underlying69
@[simp] theorem tsize_70 : tsize Try.prog 70 = some 1 := by kernel_rfl
@[simp] theorem tbytes_70 : tbytes Try.prog 70 = some 8 := by kernel_rfl
@[simp] theorem tzeroV_70 : tzeroV Try.prog 70 = some (.val (.pointer none)) := by kernel_rfl
@[simp] theorem tzero_70 : tzero Try.prog 70 = some [.val (.pointer none)] := by kernel_rfl
attribute [simp] Try.underlying70
@[simp] theorem tsize_71 : tsize Try.prog 71 = some 1 := by kernel_rfl
@[simp] theorem tbytes_71 : tbytes Try.prog 71 = some 8 := by kernel_rfl
@[simp] theorem tzeroV_71 : tzeroV Try.prog 71 = some (.val (.pointer none)) := by kernel_rfl
@[simp] theorem tzero_71 : tzero Try.prog 71 = some [.val (.pointer none)] := by kernel_rfl
attribute [simp] Try.underlying71
@[simp] theorem tsize_72 : tsize Try.prog 72 = some 1 := by kernel_rfl
@[simp] theorem tbytes_72 : tbytes Try.prog 72 = some 8 := by kernel_rfl
@[simp] theorem tzeroV_72 : tzeroV Try.prog 72 = some (.val .nilFunc) := by kernel_rfl
@[simp] theorem tzero_72 : tzero Try.prog 72 = some [.val .nilFunc] := by kernel_rfl
attribute [simp] Try.underlying72
@[simp] theorem tsize_73 : tsize Try.prog 73 = some 4 := by kernel_rfl
@[simp] theorem tbytes_73 : tbytes Try.prog 73 = some 40 := by kernel_rfl
@[simp] theorem tzeroV_73 : tzeroV Try.prog 73 = some (.agg [.val (.pointer none), .val (.pointer none), .val (.pointer none), .val (.string ⟨#[]⟩)]) := by kernel_rfl
@[simp] theorem tzero_73 : tzero Try.prog 73 = some [.val (.pointer none), .val (.pointer none), .val (.pointer none), .val (.string ⟨#[]⟩)] := by kernel_rfl
attribute [simp] Try.underlying73
@[simp] theorem tsize_74 : tsize Try.prog 74 = some 4 := by kernel_rfl
@[simp] theorem tbytes_74 : tbytes Try.prog 74 = some 40 := by kernel_rfl
@[simp] theorem tzeroV_74 : tzeroV Try.prog 74 = some (.agg [.val (.pointer none), .val (.pointer none), .val (.pointer none), .val (.string ⟨#[]⟩)]) := by kernel_rfl
@[simp] theorem tzero_74 : tzero Try.prog 74 = some [.val (.pointer none), .val (.pointer none), .val (.pointer none), .val (.string ⟨#[]⟩)] := by kernel_rfl
attribute [simp] Try.underlying74
@[simp] theorem tsize_75 : tsize Try.prog 75 = some 0 := by kernel_rfl
@[simp] theorem tbytes_75 : tbytes Try.prog 75 = some 0 := by kernel_rfl
@[simp] theorem tzeroV_75 : tzeroV Try.prog 75 = some (.agg []) := by kernel_rfl
@[simp] theorem tzero_75 : tzero Try.prog 75 = some [] := by kernel_rfl
attribute [simp] Try.underlying75
@[simp] theorem tsize_76 : tsize Try.prog 76 = some 0 := by kernel_rfl
@[simp] theorem tbytes_76 : tbytes Try.prog 76 = some 0 := by kernel_rfl
@[simp] theorem tzeroV_76 : tzeroV Try.prog 76 = some (.agg []) := by kernel_rfl
@[simp] theorem tzero_76 : tzero Try.prog 76 = some [] := by kernel_rfl
attribute [simp] Try.underlying76
@[simp] theorem tsize_77 : tsize Try.prog 77 = some 0 := by kernel_rfl
@[simp] theorem tbytes_77 : tbytes Try.prog 77 = some 0 := by kernel_rfl
@[simp] theorem tzeroV_77 : tzeroV Try.prog 77 = some (.agg []) := by kernel_rfl
@[simp] theorem tzero_77 : tzero Try.prog 77 = some [] := by kernel_rfl
attribute [simp] Try.underlying77
@[simp] theorem tsize_78 : tsize Try.prog 78 = some 1 := by kernel_rfl
@[simp] theorem tbytes_78 : tbytes Try.prog 78 = some 4 := by kernel_rfl
@[simp] theorem tzeroV_78 : tzeroV Try.prog 78 = some (.val (.int .u32 0)) := by kernel_rfl
@[simp] theorem tzero_78 : tzero Try.prog 78 = some [.val (.int .u32 0)] := by kernel_rfl
attribute [simp] Try.underlying78
@[simp] theorem tsize_79 : tsize Try.prog 79 = some 1 := by kernel_rfl
@[simp] theorem tbytes_79 : tbytes Try.prog 79 = some 1 := by kernel_rfl
@[simp] theorem tzeroV_79 : tzeroV Try.prog 79 = some (.val (.int .u8 0)) := by kernel_rfl
@[simp] theorem tzero_79 : tzero Try.prog 79 = some [.val (.int .u8 0)] := by kernel_rfl
attribute [simp] Try.underlying79
@[simp] theorem tsize_80 : tsize Try.prog 80 = some 1 := by kernel_rfl
@[simp] theorem tbytes_80 : tbytes Try.prog 80 = some 1 := by kernel_rfl
@[simp] theorem tzeroV_80 : tzeroV Try.prog 80 = some (.val (.int .u8 0)) := by kernel_rfl
@[simp] theorem tzero_80 : tzero Try.prog 80 = some [.val (.int .u8 0)] := by kernel_rfl
attribute [simp] Try.underlying80
@[simp] theorem tsize_81 : tsize Try.prog 81 = some 1 := by kernel_rfl
@[simp] theorem tbytes_81 : tbytes Try.prog 81 = some 8 := by kernel_rfl
@[simp] theorem tzeroV_81 : tzeroV Try.prog 81 = some (.val .nilFunc) := by kernel_rfl
@[simp] theorem tzero_81 : tzero Try.prog 81 = some [.val .nilFunc] := by kernel_rfl
attribute [simp] Try.underlying81
@[simp] theorem tsize_82 : tsize Try.prog 82 = some 1 := by kernel_rfl
@[simp] theorem tbytes_82 : tbytes Try.prog 82 = some 4 := by kernel_rfl
@[simp] theorem tzeroV_82 : tzeroV Try.prog 82 = some (.val (.int .i32 0)) := by kernel_rfl
@[simp] theorem tzero_82 : tzero Try.prog 82 = some [.val (.int .i32 0)] := by kernel_rfl
attribute [simp] Try.underlying82
@[simp] theorem tsize_83 : tsize Try.prog 83 = some 1 := by kernel_rfl
@[simp] theorem tbytes_83 : tbytes Try.prog 83 = some 4 := by kernel_rfl
@[simp] theorem tzeroV_83 : tzeroV Try.prog 83 = some (.val (.int .i32 0)) := by kernel_rfl
@[simp] theorem tzero_83 : tzero Try.prog 83 = some [.val (.int .i32 0)] := by kernel_rfl
attribute [simp] Try.underlying83
@[simp] theorem tsize_84 : tsize Try.prog 84 = some 11 := by kernel_rfl
@[simp] theorem tbytes_84 : tbytes Try.prog 84 = some 48 := by kernel_rfl
@[simp] theorem tzeroV_84 : tzeroV Try.prog 84 = some (.agg [.val (.int .u64 0), .val (.int .u64 0), .val (.int .u32 0), .val (.int .u8 0), .val (.int .u8 0), .val (.int .u8 0), .val (.int .u8 0), .val .nilFunc, .val (.pointer none), .val (.int .i32 0), .val (.int .i32 0)]) := by kernel_rfl
@[simp] theorem tzero_84 : tzero Try.prog 84 = some [.val (.int .u64 0), .val (.int .u64 0), .val (.int .u32 0), .val (.int .u8 0), .val (.int .u8 0), .val (.int .u8 0), .val (.int .u8 0), .val .nilFunc, .val (.pointer none), .val (.int .i32 0), .val (.int .i32 0)] := by kernel_rfl
attribute [simp] Try.underlying84
@[simp] theorem tsize_85 : tsize Try.prog 85 = some 11 := by kernel_rfl
@[simp] theorem tbytes_85 : tbytes Try.prog 85 = some 48 := by kernel_rfl
@[simp] theorem tzeroV_85 : tzeroV Try.prog 85 = some (.agg [.val (.int .u64 0), .val (.int .u64 0), .val (.int .u32 0), .val (.int .u8 0), .val (.int .u8 0), .val (.int .u8 0), .val (.int .u8 0), .val .nilFunc, .val (.pointer none), .val (.int .i32 0), .val (.int .i32 0)]) := by kernel_rfl
@[simp] theorem tzero_85 : tzero Try.prog 85 = some [.val (.int .u64 0), .val (.int .u64 0), .val (.int .u32 0), .val (.int .u8 0), .val (.int .u8 0), .val (.int .u8 0), .val (.int .u8 0), .val .nilFunc, .val (.pointer none), .val (.int .i32 0), .val (.int .i32 0)] := by kernel_rfl
attribute [simp] Try.underlying85
@[simp] theorem enters_2 : entersB Try.prog 2 = true := by kernel_rfl
@[simp] theorem enters_3 : entersB Try.prog 3 = true := by kernel_rfl
@[simp] theorem enters_4 : entersB Try.prog 4 = true := by kernel_rfl
@[simp] theorem enters_5 : entersB Try.prog 5 = true := by kernel_rfl
@[simp] theorem enters_6 : entersB Try.prog 6 = true := by kernel_rfl
@[simp] theorem enters_7 : entersB Try.prog 7 = true := by kernel_rfl
@[simp] theorem enters_8 : entersB Try.prog 8 = true := by kernel_rfl
@[simp] theorem enters_9 : entersB Try.prog 9 = true := by kernel_rfl
@[simp] theorem enters_10 : entersB Try.prog 10 = true := by kernel_rfl
@[simp] theorem enters_11 : entersB Try.prog 11 = true := by kernel_rfl
@[simp] theorem enters_12 : entersB Try.prog 12 = true := by kernel_rfl
@[simp] theorem enters_13 : entersB Try.prog 13 = true := by kernel_rfl
@[simp] theorem enters_14 : entersB Try.prog 14 = true := by kernel_rfl
@[simp] theorem enters_15 : entersB Try.prog 15 = true := by kernel_rfl
@[simp] theorem enters_16 : entersB Try.prog 16 = true := by kernel_rfl
@[simp] theorem enters_17 : entersB Try.prog 17 = true := by kernel_rfl
@[simp] theorem enters_18 : entersB Try.prog 18 = true := by kernel_rfl
@[simp] theorem enters_19 : entersB Try.prog 19 = true := by kernel_rfl
@[simp] theorem enters_20 : entersB Try.prog 20 = true := by kernel_rfl
@[simp] theorem enters_21 : entersB Try.prog 21 = true := by kernel_rfl
@[simp] theorem enters_22 : entersB Try.prog 22 = true := by kernel_rfl
@[simp] theorem enters_23 : entersB Try.prog 23 = true := by kernel_rfl
@[simp] theorem enters_24 : entersB Try.prog 24 = true := by kernel_rfl
@[simp] theorem enters_25 : entersB Try.prog 25 = true := by kernel_rfl
@[simp] theorem enters_26 : entersB Try.prog 26 = true := by kernel_rfl
@[simp] theorem enters_27 : entersB Try.prog 27 = true := by kernel_rfl
@[simp] theorem enters_28 : entersB Try.prog 28 = true := by kernel_rfl
@[simp] theorem enters_29 : entersB Try.prog 29 = true := by kernel_rfl
@[simp] theorem enters_30 : entersB Try.prog 30 = true := by kernel_rfl
@[simp] theorem enters_31 : entersB Try.prog 31 = true := by kernel_rfl
@[simp] theorem enters_32 : entersB Try.prog 32 = true := by kernel_rfl
@[simp] theorem enters_33 : entersB Try.prog 33 = true := by kernel_rfl
@[simp] theorem enters_34 : entersB Try.prog 34 = true := by kernel_rfl
@[simp] theorem enters_35 : entersB Try.prog 35 = true := by kernel_rfl
@[simp] theorem enters_36 : entersB Try.prog 36 = true := by kernel_rfl
@[simp] theorem enters_37 : entersB Try.prog 37 = true := by kernel_rfl
@[simp] theorem enters_38 : entersB Try.prog 38 = true := by kernel_rfl
@[simp] theorem enters_39 : entersB Try.prog 39 = true := by kernel_rfl
@[simp] theorem follows_mixed : Try.prog.follows .mixedOrders = true := by kernel_rfl
end Go.Proofs.Ytmddhiokioojlaa.Sy
