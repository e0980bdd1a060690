/- What the functions that the law reaches compute, one contract each. No conditions beyond those written. -/
import Derived.Test.YtffikjglpgbnbaaDoorEngineE
import Derived.Test.YtffikjglpgbnbaaDoorProg
import Derived.KernelRfl
import Derived.Test.YtffikjglpgbnbaaDoorPlainA
namespace Burn.M21
open Go Go.BE Go.Proofs
set_option maxRecDepth 100000
abbrev s_runtime_boundsError : Sh := (.pair I (.pair I (.pair .bool (.pair (.int .u8) .unit))))
abbrev qdf : Sh := (.pair .str (.pair (.int .u64) .unit))
abbrev qaf : Sh := (.pair I (.pair I (.pair I (.pair (.sl 8 I) (.pair I (.pair I (.pair I (.pair .bool .unit))))))))
abbrev qae : Sh := (.pair I (.pair (.sl 8 I) .unit))
abbrev s_api_Terminator : Sh := (.pair I (.pair (.sl 8 I) (.pair (.sl 8 I) (.pair (.sl 32 qae) (.pair I .unit)))))
abbrev qab : Sh := (.pair (.sl 8 I) (.pair (.sl 80 qaf) (.pair s_api_Terminator .unit)))
abbrev qad : Sh := (.pair .str (.pair (.sl 8 I) (.pair I (.pair (.sl 8 I) (.pair (.sl 136 qab) .unit)))))
abbrev qag : Sh := (.pair I (.pair I .unit))
abbrev qaa : Sh := (.pair .bool (.pair I (.pair (.sl 8 (.int .u64)) .unit)))
abbrev qac : Sh := (.pair qad (.pair (.sl 8 (.ptr qaa)) .unit))
def deBr : Den (.arr 64 (.int .u8)) := ((0 : Int), (1 : Int), (56 : Int), (2 : Int), (57 : Int), (49 : Int), (28 : Int), (3 : Int), (61 : Int), (58 : Int), (42 : Int), (50 : Int), (38 : Int), (29 : Int), (17 : Int), (4 : Int), (62 : Int), (47 : Int), (59 : Int), (36 : Int), (45 : Int), (43 : Int), (51 : Int), (22 : Int), (53 : Int), (39 : Int), (33 : Int), (30 : Int), (24 : Int), (18 : Int), (12 : Int), (5 : Int), (63 : Int), (55 : Int), (48 : Int), (27 : Int), (60 : Int), (41 : Int), (37 : Int), (16 : Int), (46 : Int), (35 : Int), (44 : Int), (21 : Int), (52 : Int), (32 : Int), (23 : Int), (11 : Int), (54 : Int), (26 : Int), (40 : Int), (15 : Int), (34 : Int), (20 : Int), (31 : Int), (10 : Int), (25 : Int), (14 : Int), (19 : Int), (9 : Int), (13 : Int), (8 : Int), (7 : Int), (6 : Int), ())
def tyN : Nat := 99
def tyTr : Tr TI := (.node none (.node (some ⟨.other, 1, 8, [.nilFunc], none⟩) (.node (some ⟨.int .i64, 1, 8, [.int .i64 0], some I⟩) (.node (some ⟨.struct [⟨0, 1, false⟩, ⟨1, 1, false⟩, ⟨2, 1, false⟩, ⟨3, 1, false⟩], 4, 24, [.int .i64 0, .int .i64 0, .bool false, .int .u8 0], some s_runtime_boundsError⟩) (.node (some ⟨.ptr 84, 1, 8, [.pointer none], none⟩) (.node (some ⟨.other, 1, 8, [.nilFunc], none⟩) (.node (some ⟨.other, 1, 8, [.nilFunc], none⟩) .leaf .leaf) (.node (some ⟨.int .i32, 1, 4, [.int .i32 0], some (.int .i32)⟩) .leaf .leaf)) (.node (some ⟨.other, 1, 8, [.nilFunc], none⟩) (.node (some ⟨.other, 1, 8, [.nilFunc], none⟩) .leaf .leaf) .leaf)) (.node (some ⟨.int .i64, 1, 8, [.int .i64 0], some I⟩) (.node (some ⟨.slice 51, 1, 24, [.slice none 0 0], some (.sl 80 qaf)⟩) (.node (some ⟨.other, 1, 8, [.nilFunc], none⟩) .leaf .leaf) .leaf) (.node (some ⟨.other, 1, 8, [.nilFunc], none⟩) (.node (some ⟨.struct [⟨0, 0, true⟩], 0, 0, [], none⟩) .leaf .leaf) .leaf))) (.node (some ⟨.str, 1, 16, [.string ⟨#[]⟩], some .str⟩) (.node (some ⟨.struct [⟨0, 1, false⟩], 1, 8, [.pointer none], none⟩) (.node (some ⟨.other, 1, 8, [.nilFunc], none⟩) (.node (some ⟨.other, 1, 8, [.nilFunc], none⟩) .leaf .leaf) .leaf) (.node (some ⟨.struct [⟨0, 1, false⟩, ⟨1, 1, false⟩, ⟨2, 1, false⟩, ⟨3, 1, false⟩, ⟨4, 1, false⟩, ⟨5, 1, false⟩, ⟨6, 1, false⟩, ⟨7, 1, false⟩], 8, 80, [.int .i64 0, .int .i64 0, .int .i64 0, .slice none 0 0, .int .i64 0, .int .i64 0, .int .i64 0, .bool false], some qaf⟩) (.node (some ⟨.struct [⟨0, 1, false⟩, ⟨1, 1, false⟩, ⟨2, 1, false⟩, ⟨3, 1, false⟩], 4, 40, [.pointer none, .pointer none, .pointer none, .string ⟨#[]⟩], none⟩) .leaf .leaf) .leaf)) (.node (some ⟨.struct [⟨0, 1, false⟩, ⟨1, 1, false⟩, ⟨2, 1, false⟩, ⟨3, 1, false⟩, ⟨4, 1, false⟩], 5, 96, [.string ⟨#[]⟩, .slice none 0 0, .int .i64 0, .slice none 0 0, .slice none 0 0], some qad⟩) (.node (some ⟨.struct [⟨0, 1, false⟩, ⟨1, 1, false⟩, ⟨2, 1, false⟩, ⟨3, 1, false⟩, ⟨4, 1, false⟩], 5, 88, [.int .i64 0, .slice none 0 0, .slice none 0 0, .slice none 0 0, .int .i64 0], some s_api_Terminator⟩) (.node (some ⟨.other, 1, 8, [.nilFunc], none⟩) .leaf .leaf) .leaf) (.node (some ⟨.struct [⟨0, 5, true⟩, ⟨5, 1, false⟩], 6, 120, [.string ⟨#[]⟩, .slice none 0 0, .int .i64 0, .slice none 0 0, .slice none 0 0, .slice none 0 0], some qac⟩) (.node (some ⟨.int .u8, 1, 1, [.int .u8 0], some (.int .u8)⟩) .leaf .leaf) .leaf)))) (.node (some ⟨.int .u8, 1, 1, [.int .u8 0], some (.int .u8)⟩) (.node (some ⟨.str, 1, 16, [.string ⟨#[]⟩], some .str⟩) (.node (some ⟨.ptr 97, 1, 8, [.pointer none], none⟩) (.node (some ⟨.slice 36, 1, 24, [.slice none 0 0], some (.sl 24 (.sl 1 .bool))⟩) (.node (some ⟨.other, 1, 8, [.nilFunc], none⟩) .leaf .leaf) (.node (some ⟨.struct [⟨0, 1, false⟩, ⟨1, 1, false⟩, ⟨2, 1, false⟩, ⟨3, 1, false⟩, ⟨4, 1, false⟩, ⟨5, 1, false⟩, ⟨6, 1, false⟩, ⟨7, 1, false⟩, ⟨8, 1, false⟩, ⟨9, 1, false⟩, ⟨10, 1, false⟩], 11, 48, [.int .u64 0, .int .u64 0, .int .u32 0, .int .u8 0, .int .u8 0, .int .u8 0, .int .u8 0, .nilFunc, .pointer none, .int .i32 0, .int .i32 0], none⟩) .leaf .leaf)) (.node (some ⟨.struct [⟨0, 1, false⟩, ⟨1, 1, false⟩], 2, 32, [.int .i64 0, .slice none 0 0], some qae⟩) (.node (some ⟨.int .u64, 1, 8, [.int .u64 0], some (.int .u64)⟩) .leaf .leaf) .leaf)) (.node (some ⟨.slice 45, 1, 24, [.slice none 0 0], some (.sl 136 qab)⟩) (.node (some ⟨.slice 49, 1, 24, [.slice none 0 0], some (.sl 32 qae)⟩) (.node (some ⟨.struct [⟨0, 1, false⟩, ⟨1, 1, false⟩, ⟨2, 1, false⟩], 3, 40, [.bool false, .int .i64 0, .slice none 0 0], some qaa⟩) .leaf .leaf) .leaf) (.node (some ⟨.slice 56, 1, 24, [.slice none 0 0], some (.sl 8 (.ptr qaa))⟩) (.node (some ⟨.int .u32, 1, 4, [.int .u32 0], some (.int .u32)⟩) .leaf .leaf) .leaf))) (.node (some ⟨.struct [⟨0, 1, false⟩, ⟨1, 1, false⟩], 2, 24, [.string ⟨#[]⟩, .int .u64 0], some qdf⟩) (.node (some ⟨.int .i32, 1, 4, [.int .i32 0], some (.int .i32)⟩) (.node (some ⟨.other, 1, 8, [.nilFunc], none⟩) (.node (some ⟨.other, 1, 8, [.nilFunc], none⟩) .leaf .leaf) .leaf) (.node (some ⟨.ptr 59, 1, 8, [.pointer none], some (.ptr qac)⟩) (.node (some ⟨.arr 0 16, 0, 0, [], none⟩) .leaf .leaf) .leaf)) (.node (some ⟨.struct [⟨0, 1, false⟩, ⟨1, 1, false⟩], 2, 16, [.int .i64 0, .int .i64 0], some qag⟩) (.node (some ⟨.struct [⟨0, 1, false⟩, ⟨1, 1, false⟩, ⟨2, 5, true⟩], 7, 136, [.slice none 0 0, .slice none 0 0, .int .i64 0, .slice none 0 0, .slice none 0 0, .slice none 0 0, .int .i64 0], some qab⟩) (.node (some ⟨.other, 1, 8, [.nilFunc], none⟩) .leaf .leaf) .leaf) (.node (some ⟨.other, 1, 8, [.nilFunc], none⟩) (.node (some ⟨.ptr 5, 1, 8, [.pointer none], some (.ptr (.int .u8))⟩) .leaf .leaf) .leaf))))) (.node (some ⟨.int .i64, 1, 8, [.int .i64 0], some I⟩) (.node (some ⟨.bool, 1, 1, [.bool false], some .bool⟩) (.node (some ⟨.struct [⟨0, 1, false⟩, ⟨1, 1, false⟩, ⟨2, 1, false⟩, ⟨3, 1, false⟩], 4, 24, [.int .i64 0, .int .i64 0, .bool false, .int .u8 0], some s_runtime_boundsError⟩) (.node (some ⟨.ptr 87, 1, 8, [.pointer none], none⟩) (.node (some ⟨.other, 1, 8, [.nilFunc], none⟩) (.node (some ⟨.other, 1, 8, [.nilFunc], none⟩) .leaf .leaf) (.node (some ⟨.struct [⟨0, 1, false⟩, ⟨1, 1, false⟩, ⟨2, 1, false⟩, ⟨3, 1, false⟩, ⟨4, 1, false⟩, ⟨5, 1, false⟩, ⟨6, 1, false⟩, ⟨7, 1, false⟩, ⟨8, 1, false⟩, ⟨9, 1, false⟩, ⟨10, 1, false⟩], 11, 48, [.int .u64 0, .int .u64 0, .int .u32 0, .int .u8 0, .int .u8 0, .int .u8 0, .int .u8 0, .nilFunc, .pointer none, .int .i32 0, .int .i32 0], none⟩) .leaf .leaf)) (.node (some ⟨.struct [⟨0, 1, false⟩, ⟨1, 1, false⟩], 2, 32, [.int .i64 0, .slice none 0 0], some qae⟩) (.node (some ⟨.arr 64 5, 64, 64, [.int .u8 0, .int .u8 0, .int .u8 0, .int .u8 0, .int .u8 0, .int .u8 0, .int .u8 0, .int .u8 0, .int .u8 0, .int .u8 0, .int .u8 0, .int .u8 0, .int .u8 0, .int .u8 0, .int .u8 0, .int .u8 0, .int .u8 0, .int .u8 0, .int .u8 0, .int .u8 0, .int .u8 0, .int .u8 0, .int .u8 0, .int .u8 0, .int .u8 0, .int .u8 0, .int .u8 0, .int .u8 0, .int .u8 0, .int .u8 0, .int .u8 0, .int .u8 0, .int .u8 0, .int .u8 0, .int .u8 0, .int .u8 0, .int .u8 0, .int .u8 0, .int .u8 0, .int .u8 0, .int .u8 0, .int .u8 0, .int .u8 0, .int .u8 0, .int .u8 0, .int .u8 0, .int .u8 0, .int .u8 0, .int .u8 0, .int .u8 0, .int .u8 0, .int .u8 0, .int .u8 0, .int .u8 0, .int .u8 0, .int .u8 0, .int .u8 0, .int .u8 0, .int .u8 0, .int .u8 0, .int .u8 0, .int .u8 0, .int .u8 0, .int .u8 0], some (.arr 64 (.int .u8))⟩) .leaf .leaf) .leaf)) (.node (some ⟨.slice 23, 1, 24, [.slice none 0 0], some (.sl 8 I)⟩) (.node (some ⟨.slice 2, 1, 24, [.slice none 0 0], some (.sl 8 I)⟩) (.node (some ⟨.slice 76, 1, 24, [.slice none 0 0], some (.sl 8 (.int .u64))⟩) .leaf .leaf) .leaf) (.node (some ⟨.ptr 74, 1, 8, [.pointer none], some (.ptr qaa)⟩) (.node (some ⟨.other, 1, 8, [.nilFunc], none⟩) .leaf .leaf) .leaf))) (.node (some ⟨.int .u64, 1, 8, [.int .u64 0], some (.int .u64)⟩) (.node (some ⟨.other, 1, 16, [.nilIface], none⟩) (.node (some ⟨.slice 4, 1, 24, [.slice none 0 0], some (.sl 1 .bool)⟩) (.node (some ⟨.other, 1, 8, [.nilFunc], none⟩) .leaf .leaf) .leaf) (.node (some ⟨.other, 1, 8, [.nilFunc], none⟩) (.node (some ⟨.struct [⟨0, 1, false⟩, ⟨1, 1, false⟩, ⟨2, 1, false⟩, ⟨3, 1, false⟩], 4, 40, [.pointer none, .pointer none, .pointer none, .string ⟨#[]⟩], none⟩) .leaf .leaf) .leaf)) (.node (some ⟨.struct [⟨0, 1, false⟩, ⟨1, 1, false⟩], 2, 16, [.int .i64 0, .int .i64 0], some qag⟩) (.node (some ⟨.struct [⟨0, 1, false⟩, ⟨1, 1, false⟩, ⟨2, 5, true⟩], 7, 136, [.slice none 0 0, .slice none 0 0, .int .i64 0, .slice none 0 0, .slice none 0 0, .slice none 0 0, .int .i64 0], some qab⟩) (.node (some ⟨.int .u64, 1, 8, [.int .u64 0], some (.int .u64)⟩) .leaf .leaf) .leaf) (.node (some ⟨.other, 1, 8, [.nilFunc], none⟩) (.node (some ⟨.other, 1, 8, [.nilFunc], none⟩) .leaf .leaf) .leaf)))) (.node (some ⟨.int .u8, 1, 1, [.int .u8 0], some (.int .u8)⟩) (.node (some ⟨.str, 1, 16, [.string ⟨#[]⟩], some .str⟩) (.node (some ⟨.struct [⟨0, 1, false⟩], 1, 8, [.pointer none], none⟩) (.node (some ⟨.other, 1, 8, [.nilFunc], none⟩) (.node (some ⟨.other, 1, 8, [.nilFunc], none⟩) .leaf .leaf) (.node (some ⟨.other, 1, 8, [.pointer none], none⟩) .leaf .leaf)) (.node (some ⟨.struct [⟨0, 1, false⟩, ⟨1, 1, false⟩, ⟨2, 1, false⟩, ⟨3, 1, false⟩, ⟨4, 1, false⟩, ⟨5, 1, false⟩, ⟨6, 1, false⟩, ⟨7, 1, false⟩], 8, 80, [.int .i64 0, .int .i64 0, .int .i64 0, .slice none 0 0, .int .i64 0, .int .i64 0, .int .i64 0, .bool false], some qaf⟩) (.node (some ⟨.other, 1, 8, [.nilFunc], none⟩) .leaf .leaf) .leaf)) (.node (some ⟨.struct [⟨0, 1, false⟩, ⟨1, 1, false⟩, ⟨2, 1, false⟩, ⟨3, 1, false⟩, ⟨4, 1, false⟩], 5, 96, [.string ⟨#[]⟩, .slice none 0 0, .int .i64 0, .slice none 0 0, .slice none 0 0], some qad⟩) (.node (some ⟨.struct [⟨0, 1, false⟩, ⟨1, 1, false⟩, ⟨2, 1, false⟩, ⟨3, 1, false⟩, ⟨4, 1, false⟩], 5, 88, [.int .i64 0, .slice none 0 0, .slice none 0 0, .slice none 0 0, .int .i64 0], some s_api_Terminator⟩) (.node (some ⟨.struct [⟨0, 1, false⟩, ⟨1, 1, false⟩, ⟨2, 1, false⟩], 3, 40, [.bool false, .int .i64 0, .slice none 0 0], some qaa⟩) .leaf .leaf) .leaf) (.node (some ⟨.struct [⟨0, 5, true⟩, ⟨5, 1, false⟩], 6, 120, [.string ⟨#[]⟩, .slice none 0 0, .int .i64 0, .slice none 0 0, .slice none 0 0, .slice none 0 0], some qac⟩) (.node (some ⟨.int .u8, 1, 1, [.int .u8 0], some (.int .u8)⟩) .leaf .leaf) .leaf))) (.node (some ⟨.struct [⟨0, 1, false⟩, ⟨1, 1, false⟩], 2, 24, [.string ⟨#[]⟩, .int .u64 0], some qdf⟩) (.node (some ⟨.slice 3, 1, 24, [.slice none 0 0], some (.sl 8 I)⟩) (.node (some ⟨.other, 1, 8, [.nilFunc], none⟩) (.node (some ⟨.other, 1, 8, [.nilFunc], none⟩) .leaf .leaf) .leaf) (.node (some ⟨.other, 1, 8, [.nilFunc], none⟩) (.node (some ⟨.struct [⟨0, 0, true⟩], 0, 0, [], none⟩) .leaf .leaf) .leaf)) (.node (some ⟨.other, 1, 8, [.nilFunc], none⟩) (.node (some ⟨.other, 1, 8, [.nilFunc], none⟩) (.node (some ⟨.other, 1, 8, [.nilFunc], none⟩) .leaf .leaf) .leaf) (.node (some ⟨.other, 1, 8, [.nilFunc], none⟩) (.node (some ⟨.int .i32, 1, 4, [.int .i32 0], some (.int .i32)⟩) .leaf .leaf) .leaf))))))
def gl : Nat → Option AV
 | 0 => some (.rtp (.arr 64 (.int .u8)) deBr)
 | _ => none
def fnL : List Nat := [3, 4, 5, 6, 7, 8, 9, 10, 11, 12, 13, 14, 15, 16, 17, 18, 19, 20, 21, 22, 23, 24, 25, 26, 27, 28, 29, 30, 31, 32, 33, 34, 35, 36, 37, 38, 39, 40, 41, 42, 43, 44, 45]
abbrev qai : FuncId := 4
abbrev qcb : FuncId := 5
abbrev f_law21_awake : FuncId := 6
abbrev qdp : FuncId := 7
abbrev qcv : FuncId := 8
abbrev qdu : FuncId := 9
abbrev qcj : FuncId := 10
abbrev f_r21_Out : FuncId := 11
abbrev qcd : FuncId := 12
abbrev qcp : FuncId := 13
abbrev f_r21_Before : FuncId := 14
abbrev qei : FuncId := 15
abbrev qeh : FuncId := 16
abbrev f_r20_Writes : FuncId := 17
abbrev qec : FuncId := 18
abbrev qam : FuncId := 19
abbrev qbj : FuncId := 20
abbrev qdo : FuncId := 21
abbrev qav : FuncId := 22
abbrev f_r21_out : FuncId := 23
abbrev qal : FuncId := 24
abbrev f_r20_In : FuncId := 25
abbrev f_bitset_New : FuncId := 26
abbrev qbd : FuncId := 27
abbrev f_r21_back : FuncId := 29
abbrev qay : FuncId := 31
abbrev f_cfg_Writes : FuncId := 32
abbrev qce : FuncId := 33
abbrev qej : FuncId := 34
abbrev qcz : FuncId := 35
abbrev f_bitset_Set_combine : FuncId := 36
abbrev qax : FuncId := 37
abbrev f_bitset_Set_All_cl1 : FuncId := 38
abbrev qch : FuncId := 39
abbrev qba : FuncId := 40
abbrev f_r21_in : FuncId := 41
abbrev f_liveness_analysis_succs_cl1 : FuncId := 42
abbrev f_cfg_inside : FuncId := 43
abbrev f_cfg_own : FuncId := 44
abbrev qcy : FuncId := 45
def siteTr : Tr (List (Nat × Nat)) := (.node none (.node none (.node (some [(2, 1), (3, 1)]) (.node none (.node none (.node (some [(3, 1)]) .leaf .leaf) .leaf) (.node (some [(3, 1)]) .leaf .leaf)) (.node (some [(1, 1), (10, 11)]) (.node (some [(1, 1), (23, 12), (24, 12)]) .leaf .leaf) (.node none (.node (some [(2, 1), (3, 1)]) .leaf .leaf) .leaf))) (.node (some [(1, 1)]) (.node (some [(1, 1), (12, 11)]) (.node (some [(2, 1), (3, 1)]) .leaf .leaf) (.node (some [(2, 1), (3, 1)]) .leaf .leaf)) (.node (some [(2, 1), (3, 1)]) (.node (some [(4, 1)]) .leaf .leaf) (.node (some [(3, 1), (4, 1)]) .leaf .leaf)))) (.node none (.node (some [(1, 1), (9, 2)]) (.node (some [(1, 1)]) (.node (some [(2, 1), (3, 1)]) (.node (some [(2, 1), (3, 1)]) .leaf .leaf) .leaf) (.node (some [(4, 1), (5, 1)]) .leaf .leaf)) (.node none .leaf (.node (some [(1, 1)]) .leaf .leaf))) (.node none (.node (some [(1, 1)]) (.node none (.node (some [(2, 1), (3, 1)]) .leaf .leaf) .leaf) (.node (some [(15, 101)]) .leaf .leaf)) (.node (some [(2, 1), (3, 1)]) (.node (some [(2, 1)]) .leaf .leaf) (.node (some [(2, 1), (3, 1)]) .leaf .leaf)))))
noncomputable def ctx (l : List (FuncId × FSpec)) (li : List IoT := []) : Ctx := { P := Tryd.prog, ty := tyOf tyN tyTr, gl := gl, env := envOf l, fns := fnsOf fnL, pans := fnsOf [27, 36], site := siteOf siteTr, iok := iokOf [(24, [false, true, false, false]), (27, [true, false]), (33, [true, false]), (35, [true, false])], io := ioOf li, iopin := ioPinOf li }
theorem ty_ok : TyOK Tryd.prog (tyOf tyN tyTr) := chkTy_ok (by kernel_rfl)
theorem fns_ok (l : List (FuncId × FSpec)) (li : List IoT) : FnsOK (ctx l li) := chkFns_ok (by kernel_rfl)
theorem ctx_ok {l : List (FuncId × FSpec)} {li : List IoT} (h : ∀ x ∈ l, qas (ctx []) x.1 x.2) (hi : ∀ x ∈ li, qbn (ctx []) x.1 x.2.1 x.2.2) : EOK (ctx l li) := ⟨ty_ok, envOK_of rfl h, ioOK_of rfl rfl hi, fns_ok l li, by kernel_rfl⟩
theorem E0_ok : EOK (ctx []) := ctx_ok (by simp) (by simp)
end Burn.M21
namespace Burn.M21
open Go Go.BE Go.Proofs
set_option maxRecDepth 100000
set_option linter.unusedVariables false
set_option linter.unusedSimpArgs false
open Burn.Bit
noncomputable abbrev E_B1 : Ctx := ctx []
theorem E_B1_ok : EOK E_B1 := E0_ok
def cuts_B1 : CutL := []
def rets_B1 : FuncId → List (Option Fx)
 | _ => []
def H_B1 : Hints := { cut := cutOf cuts_B1, ret := rets_B1 }
theorem bitset_Set_valid_t (s : Den (.ptr qaa)) : run E_B1 H_B1 qch 3000 (start E_B1 qch [(.tv (.ptr qaa) s)]) = (cond (!(oN qaa s)) (.chk ((oN qaa s) = false) (rt (vb (bOf ((oG qaa s).1))) [])) (rt (vb false) [])) := by kernel_rfl
theorem bitset_Set_Union_cl1_t (a : Int) (b : Int) : run E_B1 H_B1 qax 3000 (start E_B1 qax [(aint .u64 a), (aint .u64 b)]) = (rt (aint .u64 (IntKind.wrap .u64 (bvor .u64 a b))) []) := by kernel_rfl
theorem bitset_New_t (n : Int) : run E_B1 H_B1 f_bitset_New 3000 (start E_B1 f_bitset_New [(vi n)]) = (cond (decide (n < (0 : Int))) (rt (.val (.pointer none)) []) (cond (decide (n > (65536 : Int))) (rt (.val (.pointer none)) []) (.chk ((64 : Int) ≠ 0) (.chk ((IntKind.wrap .i64 (Int.tdiv (IntKind.wrap .i64 (n + (63 : Int))) (64 : Int))) = (IntKind.wrap .i64 (Int.tdiv (IntKind.wrap .i64 (n + (63 : Int))) (64 : Int)))) (.chk (0 ≤ (IntKind.wrap .i64 (Int.tdiv (IntKind.wrap .i64 (n + (63 : Int))) (64 : Int)))) (.chk (((IntKind.wrap .i64 (Int.tdiv (IntKind.wrap .i64 (n + (63 : Int))) (64 : Int)))).toNat * 8 ≤ roomB) (rt (.tref 0 0 [] (0 : Nat) []) [(0, ⟨(.arr 1 40 qaa ([(true, n, (List.replicate (((IntKind.wrap .i64 (Int.tdiv (IntKind.wrap .i64 (n + (63 : Int))) (64 : Int)))).toNat) (dz (.int .u64))), ())] : List (Den qaa))), 0, [], false, none⟩)]))))))) := by kernel_rfl
def qde (s : Den (.ptr qaa)) : Bool := (cond (!(oN qaa s)) (bOf ((oG qaa s).1)) false)

def k_bitset_Set_valid : Con := con [.d (.ptr qaa)] .bool (fun x => True) fun x => qde x.1
theorem m_bitset_Set_valid (s : Den (.ptr qaa)) (h_s : okD (.ptr qaa) s) (hp : True) : Runs E_B1 (start E_B1 qch [(.tv (.ptr qaa) s)]) (fun r_ h_ => r_ = (vb (qde s)) ∧ h_ = []) := .tree E_B1_ok (bitset_Set_valid_t s) (by
 show Tre.wp (Qv _ (fun x_ => (vb x_)) (qde s)) _
 unfold qde
 refine wp_both (fun h1 => ?_) (fun h1 => ⟨rfl, rfl⟩)
 refine ⟨by first | omega | assumption | exact hp.1 | exact hp.2 | exact hp.2.1 | (simp_all; done) | (simp_all; omega), fun _ => ?_⟩
 exact ⟨rfl, rfl⟩)
theorem c_bitset_Set_valid : qas E_B1 qch k_bitset_Set_valid.spec := qbg fun x hx hp => ⟨rfl, m_bitset_Set_valid x.1 hx.1 hp⟩
def orW (a : Int) (b : Int) : Int := (IntKind.wrap .u64 (bvor .u64 a b))

def k_bitset_Set_Union_cl1 : Con := con [.d (.int .u64), .d (.int .u64)] (.int .u64) (fun x => True) fun x => orW x.1 x.2.1
theorem m_bitset_Set_Union_cl1 (a : Int) (b : Int) (h_a : okD (.int .u64) a) (h_b : okD (.int .u64) b) (hp : True) : Runs E_B1 (start E_B1 qax [(aint .u64 a), (aint .u64 b)]) (fun r_ h_ => r_ = (aint .u64 (orW a b)) ∧ h_ = []) := .tree E_B1_ok (bitset_Set_Union_cl1_t a b) (by
 show Tre.wp (Qv _ (fun x_ => (aint .u64 x_)) (orW a b)) _
 unfold orW
 exact ⟨rfl, rfl⟩)
theorem c_bitset_Set_Union_cl1 : qas E_B1 qax k_bitset_Set_Union_cl1.spec := qbg fun x hx hp => ⟨rfl, m_bitset_Set_Union_cl1 x.1 x.2.1 hx.1 hx.2.1 hp⟩
def newS (n : Int) : Den qaa := (true, n, List.replicate ((n.toNat + 63) / 64) 0, ())

def k_bitset_New : Con := ⟨[.d I], fun x => 0 ≤ z x.1 ∧ z x.1 ≤ 65536, fun _ => .tref 0 0 [] 0 [], fun x => [(0, ⟨.arr 1 40 qaa [newS x.1], 0, [], false, none⟩)]⟩
theorem m_bitset_New (n : Int) (h_n : okD I n) (hp : 0 ≤ z n ∧ z n ≤ 65536) : Runs E_B1 (start E_B1 f_bitset_New [(vi n)]) (fun r_ h_ => r_ = (.tref 0 0 [] (0 : Nat) []) ∧ h_ = [(0, ⟨(.arr 1 40 qaa ([(newS n)] : List (Den qaa))), 0, [], false, none⟩)]) := .tree E_B1_ok (bitset_New_t n) (by
 simp only [z] at hp
 refine qah (fun h => ?_) (fun _ => ?_)
 ·have := of_decide_eq_true h
  omega
 refine qah (fun h => ?_) (fun _ => ?_)
 ·have := of_decide_eq_true h
  omega
 have h1 : IntKind.wrap .i64 (n + (63 : Int)) = n + 63 := wrap64 _ (by omega) (by omega)
 have h2 : Int.tdiv (n + 63) (64 : Int) = ((n.toNat + 63) / 64 : Nat) := by
  rw [Int.tdiv_eq_ediv_of_nonneg (by omega)]
  omega
 rw [h1, h2]
 have h3 : IntKind.wrap .i64 (((n.toNat + 63) / 64 : Nat) : Int) = ((n.toNat + 63) / 64 : Nat) := wrap64 _ (by omega) (by omega)
 rw [h3]
 refine ⟨by omega, fun _ => ⟨rfl, fun _ => ⟨by omega, fun _ => ⟨?_, fun _ => ⟨rfl, ?_⟩⟩⟩⟩⟩
 ·simp only [roomB]
  omega
 ·rw [Int.toNat_natCast]
  rfl)
theorem c_bitset_New : qas E_B1 f_bitset_New k_bitset_New.spec := qbg fun x hx hp => ⟨rfl, m_bitset_New x.1 hx.1 hp⟩
def L_B1 : List (FuncId × FSpec) := [(qch, k_bitset_Set_valid.spec), (qax, k_bitset_Set_Union_cl1.spec), (f_bitset_New, k_bitset_New.spec)] ++ []
theorem L_B1_ok : ∀ x ∈ L_B1, qas (ctx []) x.1 x.2 := by
 unfold L_B1
 simp only [List.cons_append, List.nil_append, List.forall_mem_cons]
 exact ⟨c_bitset_Set_valid, c_bitset_Set_Union_cl1, c_bitset_New, by simp⟩
def LI_B1 : List IoT := [] ++ []
theorem LI_B1_ok : ∀ x ∈ LI_B1, qbn (ctx []) x.1 x.2.1 x.2.2 := by
 unfold LI_B1
 simp only [List.cons_append, List.nil_append, List.forall_mem_cons]
 exact by simp
end Burn.M21
namespace Burn.M21
open Go Go.BE Go.Proofs
set_option maxRecDepth 100000
set_option linter.unusedVariables false
set_option linter.unusedSimpArgs false
open Burn.Bit
noncomputable abbrev E_B2 : Ctx := ctx L_B1 LI_B1
theorem E_B2_ok : EOK E_B2 := ctx_ok L_B1_ok LI_B1_ok
def cuts_B2 : CutL := []
def rets_B2 : FuncId → List (Option Fx)
 | _ => []
def H_B2 : Hints := { cut := cutOf cuts_B2, ret := rets_B2 }
theorem bitset_Set_Has_t (s : Den (.ptr qaa)) (i : Int) : run E_B2 H_B2 qcy 3000 (start E_B2 qcy [(.tv (.ptr qaa) s), (vi i)]) = (.chk (True) (.know True (cond (qde s) (cond (decide (i ≥ (0 : Int))) (.chk ((oN qaa s) = false) (cond (decide (i < (z ((oG qaa s).2.1)))) (.chk ((oN qaa s) = false) (.chk ((64 : Int) ≠ 0) (.chk (0 ≤ (IntKind.wrap .i64 (Int.tdiv i (64 : Int))) ∧ (IntKind.wrap .i64 (Int.tdiv i (64 : Int))) < (ln (.int .u64) ((oG qaa s).2.2.1))) (.chk ((64 : Int) ≠ 0) (.chk (0 ≤ (Int.tmod i (64 : Int))) (rt (vb ((IntKind.wrap .u64 (bvand .u64 (Int.fdiv (iOf .u64 (gd (.int .u64) ((oG qaa s).2.2.1) (((IntKind.wrap .i64 (Int.tdiv i (64 : Int)))).toNat))) (2 ^ min ((Int.tmod i (64 : Int))).toNat (IntKind.bits .u64))) (1 : Int))) == (1 : Int))) [])))))) (rt (vb false) []))) (rt (vb false) [])) (rt (vb false) [])))) := by kernel_rfl
structure WF (s : Den qaa) : Prop where
 made : s.1 = true
 lo : 0 ≤ z s.2.1
 hi : z s.2.1 ≤ 65536
 ok : OkW (z s.2.1).toNat s.2.2.1
def wfP (s : Den (.ptr qaa)) : Prop := ∃ y, s = some y ∧ WF y
def memS (s : Den qaa) (i : Int) : Bool := decide (0 ≤ i) && (decide (i < z s.2.1) && memW s.2.2.1 i.toNat)
def hasS (s : Den (.ptr qaa)) (i : Int) : Bool := memS (oG qaa s) i
theorem idx64 {i : Int} (h0 : 0 ≤ i) (h1 : i ≤ 65536) : IntKind.wrap .i64 (Int.tdiv i (64 : Int)) = ((i.toNat / 64 : Nat) : Int) ∧ Int.tmod i (64 : Int) = ((i.toNat % 64 : Nat) : Int) := by
 have e : Int.tdiv i 64 = ((i.toNat / 64 : Nat) : Int) := by
  rw [Int.tdiv_eq_ediv_of_nonneg h0]
  omega
 refine ⟨by rw [e]; exact wrap64 _ (by omega) (by omega), ?_⟩
 rw [Int.tmod_eq_emod_of_nonneg h0]
 omega

def k_bitset_Set_Has : Con := con [.d (.ptr qaa), .d I] .bool (fun x => wfP x.1) fun x => hasS x.1 x.2.1
theorem m_bitset_Set_Has (s : Den (.ptr qaa)) (i : Int) (h_s : okD (.ptr qaa) s) (h_i : okD I i) (hp : wfP s) : Runs E_B2 (start E_B2 qcy [(.tv (.ptr qaa) s), (vi i)]) (fun r_ h_ => r_ = (vb (hasS s i)) ∧ h_ = []) := .tree E_B2_ok (bitset_Set_Has_t s i) (by
 obtain ⟨y, rfl, hy⟩ := hp
 refine ⟨trivial, fun _ _ => ?_⟩
 refine qah (fun _ => ?_) (fun h => absurd (h.symm.trans (show qde (some y) = true from hy.made)) (by decide))
 have hlo := hy.lo
 have hhi := hy.hi
 refine qah (fun h => ?_) (fun h => ?_)
 ·have h0 := of_decide_eq_true h
  refine ⟨rfl, fun _ => qah (fun h1 => ?_) (fun h1 => ?_)⟩
  ·have h1 := of_decide_eq_true h1
   have h1 : i < z y.2.1 := h1
   obtain ⟨e1, e2⟩ := idx64 h0 (by omega)
   have hb := has_tb (hy.ok.get (i.toNat / 64)) (Nat.mod_lt i.toNat (show 0 < 64 by omega))
   rw [e1, e2, Int.toNat_natCast, Int.toNat_natCast]
   have hl := hy.ok.lt (r := i.toNat) (by omega)
   refine ⟨rfl, fun _ => ⟨by omega, fun _ => ⟨⟨by omega, ?_⟩, fun _ => ⟨by omega, fun _ => ⟨by omega, fun _ => ⟨?_, rfl⟩⟩⟩⟩⟩⟩
   ·exact Int.ofNat_lt.2 hl
   ·refine congrArg (fun b => vb b) (hb.trans ?_)
    unfold hasS memS
    rw [decide_eq_true h0, Bool.true_and, show oG qaa (some y) = y from rfl, decide_eq_true h1, Bool.true_and]
    rfl
  ·have h1 : ¬ i < z y.2.1 := of_decide_eq_false h1
   refine ⟨?_, rfl⟩
   unfold hasS memS
   rw [show oG qaa (some y) = y from rfl, decide_eq_false h1, Bool.false_and, Bool.and_false]
 ·have h0 : ¬ i ≥ 0 := of_decide_eq_false h
  refine ⟨?_, rfl⟩
  unfold hasS memS
  rw [decide_eq_false (by omega), Bool.false_and])
theorem c_bitset_Set_Has : qas E_B2 qcy k_bitset_Set_Has.spec := qbg fun x hx hp => ⟨rfl, m_bitset_Set_Has x.1 x.2.1 hx.1 hx.2.1 hp⟩
def L_B2 : List (FuncId × FSpec) := [(qcy, k_bitset_Set_Has.spec)] ++ L_B1
theorem L_B2_ok : ∀ x ∈ L_B2, qas (ctx []) x.1 x.2 := by
 unfold L_B2
 simp only [List.cons_append, List.nil_append, List.forall_mem_cons]
 exact ⟨c_bitset_Set_Has, L_B1_ok⟩
def LI_B2 : List IoT := [] ++ LI_B1
theorem LI_B2_ok : ∀ x ∈ LI_B2, qbn (ctx []) x.1 x.2.1 x.2.2 := by
 unfold LI_B2
 simp only [List.cons_append, List.nil_append, List.forall_mem_cons]
 exact LI_B1_ok
end Burn.M21
namespace Burn.M21
open Go Go.BE Go.Proofs
set_option maxRecDepth 100000
set_option linter.unusedVariables false
set_option linter.unusedSimpArgs false
open Burn.Bit
noncomputable abbrev E_B3 : Ctx := ctx L_B2 LI_B2
theorem E_B3_ok : EOK E_B3 := ctx_ok L_B2_ok LI_B2_ok
def cuts_B3 : CutL := []
def rets_B3 : FuncId → List (Option Fx)
 | _ => []
def H_B3 : Hints := { cut := cutOf cuts_B3, ret := rets_B3 }
theorem bitset_Set_Add_t (s : Den qaa) (i : Int) (hd1 : Hd) : run E_B3 H_B3 qcz 3000 (startH E_B3 qcz [(.tref 1 1 [] (0 : Nat) []), (vi i)] [.g 1 1 hd1] [(1, ⟨(.arr 1 40 qaa ([s] : List (Den qaa))), 1, [], false, none⟩)]) = (.chk (True) (.know True (cond (!(qde (some s))) (rt (vb false) [(0, ⟨(.pins [.g 1 1 hd1]), 0, [], false, none⟩), (1, ⟨(.arr 1 40 qaa ([s] : List (Den qaa))), 1, [], false, none⟩)]) (cond (decide (i < (0 : Int))) (rt (vb false) [(0, ⟨(.pins [.g 1 1 hd1]), 0, [], false, none⟩), (1, ⟨(.arr 1 40 qaa ([s] : List (Den qaa))), 1, [], false, none⟩)]) (.chk ((0 : Nat) < (1 : Nat)) (cond (decide (i ≥ (z s.2.1))) (rt (vb false) [(0, ⟨(.pins [.g 1 1 hd1]), 0, [], false, none⟩), (1, ⟨(.arr 1 40 qaa ([s] : List (Den qaa))), 1, [], false, none⟩)]) (.chk (wfP (some s)) (.know True (cond (hasS (some s) i) (rt (vb false) [(0, ⟨(.pins [.g 1 1 hd1]), 0, [], false, none⟩), (1, ⟨(.arr 1 40 qaa ([s] : List (Den qaa))), 1, [], false, none⟩)]) (.chk ((0 : Nat) < (1 : Nat)) (.chk ((64 : Int) ≠ 0) (.chk ((0 : Nat) < (1 : Nat)) (.chk (0 ≤ (IntKind.wrap .i64 (Int.tdiv i (64 : Int))) ∧ (IntKind.wrap .i64 (Int.tdiv i (64 : Int))) < (ln (.int .u64) s.2.2.1)) (.chk ((0 : Nat) < (1 : Nat)) (.chk (((IntKind.wrap .i64 (Int.tdiv i (64 : Int)))).toNat < (ln (.int .u64) s.2.2.1)) (.chk ((64 : Int) ≠ 0) (.chk (0 ≤ (Int.tmod i (64 : Int))) (.chk ((0 : Nat) < (1 : Nat)) (.chk (0 ≤ (IntKind.wrap .i64 (Int.tdiv i (64 : Int))) ∧ (IntKind.wrap .i64 (Int.tdiv i (64 : Int))) < (ln (.int .u64) s.2.2.1)) (.chk ((0 : Nat) < (1 : Nat)) (.chk (((IntKind.wrap .i64 (Int.tdiv i (64 : Int)))).toNat < (ln (.int .u64) s.2.2.1)) (rt (vb true) [(0, ⟨(.pins [.g 1 1 hd1]), 0, [], false, none⟩), (1, ⟨(.arr 1 40 qaa ([(s.1, s.2.1, (st (.int .u64) s.2.2.1 (((IntKind.wrap .i64 (Int.tdiv i (64 : Int)))).toNat) (IntKind.wrap .u64 (bvor .u64 (iOf .u64 (gd (.int .u64) s.2.2.1 (((IntKind.wrap .i64 (Int.tdiv i (64 : Int)))).toNat))) (IntKind.wrap .u64 ((1 : Int) * 2 ^ min ((Int.tmod i (64 : Int))).toNat (IntKind.bits .u64)))))), s.2.2.2)] : List (Den qaa))), 1, [], false, none⟩)])))))))))))))))))))))) := by kernel_rfl
theorem bitset_Set_Remove_t (s : Den qaa) (i : Int) (hd1 : Hd) : run E_B3 H_B3 qce 3000 (startH E_B3 qce [(.tref 1 1 [] (0 : Nat) []), (vi i)] [.g 1 1 hd1] [(1, ⟨(.arr 1 40 qaa ([s] : List (Den qaa))), 1, [], false, none⟩)]) = (.chk (wfP (some s)) (.know True (cond (!(hasS (some s) i)) (rt (vb false) [(0, ⟨(.pins [.g 1 1 hd1]), 0, [], false, none⟩), (1, ⟨(.arr 1 40 qaa ([s] : List (Den qaa))), 1, [], false, none⟩)]) (.chk ((0 : Nat) < (1 : Nat)) (.chk ((64 : Int) ≠ 0) (.chk ((0 : Nat) < (1 : Nat)) (.chk (0 ≤ (IntKind.wrap .i64 (Int.tdiv i (64 : Int))) ∧ (IntKind.wrap .i64 (Int.tdiv i (64 : Int))) < (ln (.int .u64) s.2.2.1)) (.chk ((0 : Nat) < (1 : Nat)) (.chk (((IntKind.wrap .i64 (Int.tdiv i (64 : Int)))).toNat < (ln (.int .u64) s.2.2.1)) (.chk ((64 : Int) ≠ 0) (.chk (0 ≤ (Int.tmod i (64 : Int))) (.chk ((0 : Nat) < (1 : Nat)) (.chk (0 ≤ (IntKind.wrap .i64 (Int.tdiv i (64 : Int))) ∧ (IntKind.wrap .i64 (Int.tdiv i (64 : Int))) < (ln (.int .u64) s.2.2.1)) (.chk ((0 : Nat) < (1 : Nat)) (.chk (((IntKind.wrap .i64 (Int.tdiv i (64 : Int)))).toNat < (ln (.int .u64) s.2.2.1)) (rt (vb true) [(0, ⟨(.pins [.g 1 1 hd1]), 0, [], false, none⟩), (1, ⟨(.arr 1 40 qaa ([(s.1, s.2.1, (st (.int .u64) s.2.2.1 (((IntKind.wrap .i64 (Int.tdiv i (64 : Int)))).toNat) (IntKind.wrap .u64 (bvandn .u64 (iOf .u64 (gd (.int .u64) s.2.2.1 (((IntKind.wrap .i64 (Int.tdiv i (64 : Int)))).toNat))) (IntKind.wrap .u64 ((1 : Int) * 2 ^ min ((Int.tmod i (64 : Int))).toNat (IntKind.bits .u64)))))), s.2.2.2)] : List (Den qaa))), 1, [], false, none⟩)])))))))))))))))) := by kernel_rfl
def addS (s : Den qaa) (i : Int) : Den qaa := cond (memS s i || !(decide (0 ≤ i) && decide (i < z s.2.1))) s (s.1, s.2.1, addW s.2.2.1 i.toNat, ())
def addR (s : Den qaa) (i : Int) : Bool := !(memS s i || !(decide (0 ≤ i) && decide (i < z s.2.1)))
def remS (s : Den qaa) (i : Int) : Den qaa := cond (memS s i) (s.1, s.2.1, remW s.2.2.1 i.toNat, ()) s
theorem add_out {s : Den qaa} {i : Int} (h : (decide (0 ≤ i) && decide (i < z s.2.1)) = false) : addR s i = false ∧ addS s i = s := by
 unfold addR addS
 rw [h]
 simp
theorem add_mem {s : Den qaa} {i : Int} (h : memS s i = true) : addR s i = false ∧ addS s i = s := by
 unfold addR addS
 rw [h]
 simp
theorem add_new {s : Den qaa} {i : Int} (h : memS s i = false) (h0 : 0 ≤ i) (h1 : i < z s.2.1) : addR s i = true ∧ addS s i = (s.1, s.2.1, addW s.2.2.1 i.toNat, ()) := by
 unfold addR addS
 rw [h, decide_eq_true h0, decide_eq_true h1]
 exact ⟨rfl, rfl⟩

def k_bitset_Set_Add : ConIO := ⟨[.ref 1 40 qaa, .c (.d I)], fun x => WF x.1, fun x => (vb (addR x.1 x.2.1)), fun x => [(1, ⟨.arr 1 40 qaa [addS x.1 x.2.1], 1, [], false, none⟩)]⟩
theorem m_bitset_Set_Add (s : Den qaa) (i : Int) (hd1 : Hd) (h_s : okD qaa s) (h_i : okD I i) (hp : WF s) : Runs E_B3 (startH E_B3 qcz [(.tref 1 1 [] (0 : Nat) []), (vi i)] [.g 1 1 hd1] [(1, ⟨(.arr 1 40 qaa ([s] : List (Den qaa))), 1, [], false, none⟩)]) (fun r_ h_ => r_ = (vb (addR s i)) ∧ h_ = (0, ⟨(.pins [.g 1 1 hd1]), 0, [], false, none⟩) :: [(1, ⟨.arr 1 40 qaa [addS s i], 1, [], false, none⟩)]) := .tree E_B3_ok (bitset_Set_Add_t s i hd1) (by
 have hv : (!(qde (some s))) = false := by rw [show qde (some s) = true from hp.made]; rfl
 have hlo := hp.lo
 have hhi := hp.hi
 refine ⟨trivial, fun _ _ => qah (fun h => absurd (h.symm.trans hv) (by decide)) fun _ => ?_⟩
 refine qah (fun h => ?_) (fun h => ?_)
 ·have h := of_decide_eq_true h
  obtain ⟨e1, e2⟩ := add_out (s := s) (i := i) (by rw [decide_eq_false (by omega), Bool.false_and])
  rw [e1, e2]
  exact ⟨rfl, rfl⟩
 have h0 := of_decide_eq_false h
 refine ⟨Nat.zero_lt_one, fun _ => qah (fun h => ?_) (fun h => ?_)⟩
 ·have h : i ≥ z s.2.1 := of_decide_eq_true h
  obtain ⟨e1, e2⟩ := add_out (s := s) (i := i) (by rw [decide_eq_false (p := i < z s.2.1) (by omega), Bool.and_false])
  rw [e1, e2]
  exact ⟨rfl, rfl⟩
 have h1 : ¬ i ≥ z s.2.1 := of_decide_eq_false h
 have h1 : i < z s.2.1 := by omega
 have h0 : 0 ≤ i := by omega
 refine ⟨⟨s, rfl, hp⟩, fun _ _ => qah (fun h => ?_) (fun h => ?_)⟩
 ·obtain ⟨e1, e2⟩ := add_mem (s := s) (i := i) h
  rw [e1, e2]
  exact ⟨rfl, rfl⟩
 obtain ⟨e1, e2⟩ := add_new (s := s) (i := i) h h0 h1
 obtain ⟨i1, i2⟩ := idx64 h0 (by omega)
 have hl := hp.ok.lt (r := i.toNat) (by omega)
 have hl : i.toNat / 64 < ln (.int .u64) s.2.2.1 := hl
 rw [i1, i2, Int.toNat_natCast, Int.toNat_natCast, e1, e2]
 have hr : 0 ≤ ((i.toNat / 64 : Nat) : Int) ∧ ((i.toNat / 64 : Nat) : Int) < (ln (.int .u64) s.2.2.1 : Int) := ⟨by omega, Int.ofNat_lt.2 hl⟩
 refine ⟨Nat.zero_lt_one, fun _ => ⟨by omega, fun _ => ⟨Nat.zero_lt_one, fun _ => ⟨hr, fun _ => ⟨Nat.zero_lt_one, fun _ => ⟨hl, fun _ => ⟨by omega, fun _ => ⟨by omega, fun _ => ⟨Nat.zero_lt_one, fun _ => ⟨hr, fun _ => ⟨Nat.zero_lt_one, fun _ => ⟨hl, fun _ => ?_⟩⟩⟩⟩⟩⟩⟩⟩⟩⟩⟩⟩
 exact ⟨rfl, rfl⟩)
theorem c_bitset_Set_Add : qbn E_B3 qcz [1] k_bitset_Set_Add.spec := spec_ofIO fun x l hx hp hl => by
 obtain ⟨hd1, rfl⟩ := pins1 hl
 exact ⟨rfl, m_bitset_Set_Add x.1 x.2.1 hd1 hx.1 hx.2.1 hp⟩

def k_bitset_Set_Remove : ConIO := ⟨[.ref 1 40 qaa, .c (.d I)], fun x => WF x.1, fun x => (vb (memS x.1 x.2.1)), fun x => [(1, ⟨.arr 1 40 qaa [remS x.1 x.2.1], 1, [], false, none⟩)]⟩
theorem m_bitset_Set_Remove (s : Den qaa) (i : Int) (hd1 : Hd) (h_s : okD qaa s) (h_i : okD I i) (hp : WF s) : Runs E_B3 (startH E_B3 qce [(.tref 1 1 [] (0 : Nat) []), (vi i)] [.g 1 1 hd1] [(1, ⟨(.arr 1 40 qaa ([s] : List (Den qaa))), 1, [], false, none⟩)]) (fun r_ h_ => r_ = (vb (memS s i)) ∧ h_ = (0, ⟨(.pins [.g 1 1 hd1]), 0, [], false, none⟩) :: [(1, ⟨.arr 1 40 qaa [remS s i], 1, [], false, none⟩)]) := .tree E_B3_ok (bitset_Set_Remove_t s i hd1) (by
 have hlo := hp.lo
 have hhi := hp.hi
 refine ⟨⟨s, rfl, hp⟩, fun _ _ => qah (fun h => ?_) (fun h => ?_)⟩
 ·have h : memS s i = false := by
   have h2 : (!(memS s i)) = true := h
   simpa using h2
  have e : remS s i = s := by unfold remS; rw [h]; rfl
  rw [h, e]
  exact ⟨rfl, rfl⟩
 have h : memS s i = true := by
  have h2 : (!(memS s i)) = false := h
  simpa using h2
 have e : remS s i = (s.1, s.2.1, remW s.2.2.1 i.toNat, ()) := by unfold remS; rw [h]; rfl
 have h3 := h
 unfold memS at h3
 simp only [Bool.and_eq_true, decide_eq_true_eq] at h3
 obtain ⟨h0, h1, _⟩ := h3
 obtain ⟨i1, i2⟩ := idx64 h0 (by omega)
 have hl := hp.ok.lt (r := i.toNat) (by omega)
 have hl : i.toNat / 64 < ln (.int .u64) s.2.2.1 := hl
 rw [i1, i2, Int.toNat_natCast, Int.toNat_natCast, h, e]
 have hr : 0 ≤ ((i.toNat / 64 : Nat) : Int) ∧ ((i.toNat / 64 : Nat) : Int) < (ln (.int .u64) s.2.2.1 : Int) := ⟨by omega, Int.ofNat_lt.2 hl⟩
 refine ⟨Nat.zero_lt_one, fun _ => ⟨by omega, fun _ => ⟨Nat.zero_lt_one, fun _ => ⟨hr, fun _ => ⟨Nat.zero_lt_one, fun _ => ⟨hl, fun _ => ⟨by omega, fun _ => ⟨by omega, fun _ => ⟨Nat.zero_lt_one, fun _ => ⟨hr, fun _ => ⟨Nat.zero_lt_one, fun _ => ⟨hl, fun _ => ?_⟩⟩⟩⟩⟩⟩⟩⟩⟩⟩⟩⟩
 exact ⟨rfl, rfl⟩)
theorem c_bitset_Set_Remove : qbn E_B3 qce [1] k_bitset_Set_Remove.spec := spec_ofIO fun x l hx hp hl => by
 obtain ⟨hd1, rfl⟩ := pins1 hl
 exact ⟨rfl, m_bitset_Set_Remove x.1 x.2.1 hd1 hx.1 hx.2.1 hp⟩
def L_B3 : List (FuncId × FSpec) := [] ++ L_B2
theorem L_B3_ok : ∀ x ∈ L_B3, qas (ctx []) x.1 x.2 := L_B2_ok
def LI_B3 : List IoT := [(qcz, [1], k_bitset_Set_Add.spec), (qce, [1], k_bitset_Set_Remove.spec)] ++ LI_B2
theorem LI_B3_ok : ∀ x ∈ LI_B3, qbn (ctx []) x.1 x.2.1 x.2.2 := by
 unfold LI_B3
 simp only [List.cons_append, List.nil_append, List.forall_mem_cons]
 exact ⟨c_bitset_Set_Add, c_bitset_Set_Remove, LI_B2_ok⟩
end Burn.M21
namespace Burn.M21
open Go Go.BE Go.Proofs
set_option maxRecDepth 100000
set_option linter.unusedVariables false
set_option linter.unusedSimpArgs false
open Burn.Bit
noncomputable abbrev E_B4 : Ctx := ctx L_B3 LI_B3
theorem E_B4_ok : EOK E_B4 := ctx_ok L_B3_ok LI_B3_ok
def cuts_B4 : CutL := [([(27, 322)], 36, 0, [0, 1, 2, 7, 33, 34], [], [[]])]
def rets_B4 : FuncId → List (Option Fx)
 | _ => []
def H_B4 : Hints := { cut := cutOf cuts_B4, ret := rets_B4 }
noncomputable def qbb (o : Den (.ptr qaa)) (changed : Bool) (t33 : Int) (t34 : Int) (hd_ : Hd) (s : Den qaa) : Cfg := hcfgx E_B4 f_bitset_Set_combine 0 [(0, (.tref 1 1 [] (0 : Nat) [])), (1, (.tv (.ptr qaa) o)), (2, (.fn qax [])), (7, (vb changed)), (33, (vi t33)), (34, (vi t34))] [(0, ⟨(.pins [.g 1 1 hd_]), 0, [], false, none⟩), (1, ⟨(.arr 1 40 qaa ([s] : List (Den qaa))), 1, [], false, none⟩)] 2 [cfr E_B4 qbd 0 []]
theorem bitset_Set_Union_t (s : Den qaa) (o : Den (.ptr qaa)) (hd1 : Hd) : run E_B4 H_B4 qbd 3000 (startH E_B4 qbd [(.tref 1 1 [] (0 : Nat) []), (.tv (.ptr qaa) o)] [.g 1 1 hd1] [(1, ⟨(.arr 1 40 qaa ([s] : List (Den qaa))), 1, [], false, none⟩)]) = (.chk (True) (cond (!(qde (some s))) (.know True (rt (vb false) [(0, ⟨(.pins [.g 1 1 hd1]), 0, [], false, none⟩), (1, ⟨(.arr 1 40 qaa ([s] : List (Den qaa))), 1, [], false, none⟩)])) (.chk (True) (cond (!(qde o)) (.know True (.know True (rt (vb false) [(0, ⟨(.pins [.g 1 1 hd1]), 0, [], false, none⟩), (1, ⟨(.arr 1 40 qaa ([s] : List (Den qaa))), 1, [], false, none⟩)]))) (.chk ((0 : Nat) < (1 : Nat)) (.chk ((oN qaa o) = false) (.know True (.know True (cond ((z s.2.1) != (z ((oG qaa o).2.1))) (rt (vb false) [(0, ⟨(.pins [.g 1 1 hd1]), 0, [], false, none⟩), (1, ⟨(.arr 1 40 qaa ([s] : List (Den qaa))), 1, [], false, none⟩)]) (.chk ((0 : Nat) < (1 : Nat)) (.chk ((0 : Nat) < (1 : Nat)) (hd (qbb o false ((ln (.int .u64) s.2.2.1) : Int) (0 : Int) hd1 s))))))))))))) := by kernel_rfl
theorem qda (o : Den (.ptr qaa)) (changed : Bool) (t33 : Int) (t34 : Int) (hd_ : Hd) (s : Den qaa) : run E_B4 H_B4 qbd 3000 (qbb o changed t33 t34 hd_ s) = (cond (decide (t34 < t33)) (.chk ((0 : Nat) < (1 : Nat)) (.chk ((0 : Nat) < (1 : Nat)) (.chk (0 ≤ t34 ∧ t34 < (ln (.int .u64) s.2.2.1)) (.chk ((0 : Nat) < (1 : Nat)) (.chk (t34.toNat < (ln (.int .u64) s.2.2.1)) (.chk ((oN qaa o) = false) (.chk (0 ≤ t34 ∧ t34 < (ln (.int .u64) ((oG qaa o).2.2.1))) (.chk (True) (.know (okD (.int .u64) (orW (gd (.int .u64) s.2.2.1 t34.toNat) (gd (.int .u64) ((oG qaa o).2.2.1) t34.toNat))) (cond changed (.chk ((0 : Nat) < (1 : Nat)) (.chk ((0 : Nat) < (1 : Nat)) (.chk (0 ≤ t34 ∧ t34 < (ln (.int .u64) s.2.2.1)) (.chk ((0 : Nat) < (1 : Nat)) (.chk (t34.toNat < (ln (.int .u64) s.2.2.1)) (hd (qbb o true t33 (IntKind.wrap .i64 (t34 + (1 : Int))) hd_ (s.1, s.2.1, (st (.int .u64) s.2.2.1 t34.toNat (orW (gd (.int .u64) s.2.2.1 t34.toNat) (gd (.int .u64) ((oG qaa o).2.2.1) t34.toNat))), s.2.2.2)))))))) (.chk ((0 : Nat) < (1 : Nat)) (.chk ((0 : Nat) < (1 : Nat)) (.chk (0 ≤ t34 ∧ t34 < (ln (.int .u64) s.2.2.1)) (.chk ((0 : Nat) < (1 : Nat)) (.chk (t34.toNat < (ln (.int .u64) s.2.2.1)) (.chk ((0 : Nat) < (1 : Nat)) (.chk ((0 : Nat) < (1 : Nat)) (.chk (0 ≤ t34 ∧ t34 < (ln (.int .u64) s.2.2.1)) (.chk ((0 : Nat) < (1 : Nat)) (.chk (t34.toNat < (ln (.int .u64) s.2.2.1)) (hd (qbb o ((orW (gd (.int .u64) s.2.2.1 t34.toNat) (gd (.int .u64) ((oG qaa o).2.2.1) t34.toNat)) != (iOf .u64 (gd (.int .u64) s.2.2.1 t34.toNat))) t33 (IntKind.wrap .i64 (t34 + (1 : Int))) hd_ (s.1, s.2.1, (st (.int .u64) s.2.2.1 t34.toNat (orW (gd (.int .u64) s.2.2.1 t34.toNat) (gd (.int .u64) ((oG qaa o).2.2.1) t34.toNat))), s.2.2.2))))))))))))))))))))))) (rt (vb changed) [(0, ⟨(.pins [.g 1 1 hd_]), 0, [], false, none⟩), (1, ⟨(.arr 1 40 qaa ([s] : List (Den qaa))), 1, [], false, none⟩)])) := by kernel_rfl
def unionS (s : Den qaa) (o : Den (.ptr qaa)) : Den qaa := (s.1, s.2.1, orWs s.2.2.1 (oG qaa o).2.2.1, ())
def unionR (s : Den qaa) (o : Den (.ptr qaa)) : Bool := decide (orWs s.2.2.1 (oG qaa o).2.2.1 ≠ s.2.2.1)

def k_bitset_Set_Union : ConIO := ⟨[.ref 1 40 qaa, .c (.d (.ptr qaa))], fun x => WF x.1 ∧ wfP x.2.1 ∧ z x.1.2.1 = z (oG qaa x.2.1).2.1, fun x => (vb (unionR x.1 x.2.1)), fun x => [(1, ⟨.arr 1 40 qaa [unionS x.1 x.2.1], 1, [], false, none⟩)]⟩
theorem m_bitset_Set_Union (s : Den qaa) (o : Den (.ptr qaa)) (hd1 : Hd) (h_s : okD qaa s) (h_o : okD (.ptr qaa) o) (hp : WF s ∧ wfP o ∧ z s.2.1 = z (oG qaa o).2.1) : Runs E_B4 (startH E_B4 qbd [(.tref 1 1 [] (0 : Nat) []), (.tv (.ptr qaa) o)] [.g 1 1 hd1] [(1, ⟨(.arr 1 40 qaa ([s] : List (Den qaa))), 1, [], false, none⟩)]) (fun r_ h_ => r_ = (vb (unionR s o)) ∧ h_ = (0, ⟨(.pins [.g 1 1 hd1]), 0, [], false, none⟩) :: [(1, ⟨.arr 1 40 qaa [unionS s o], 1, [], false, none⟩)]) := .tree E_B4_ok (bitset_Set_Union_t s o hd1) (by
 obtain ⟨hs, ⟨y, rfl, hy⟩, hn⟩ := hp
 have hn : z s.2.1 = z y.2.1 := hn
 have hv : (!(qde (some s))) = false := by rw [show qde (some s) = true from hs.made]; rfl
 have hv2 : (!(qde (some y))) = false := by rw [show qde (some y) = true from hy.made]; rfl
 have hlen : s.2.2.1.length = y.2.2.1.length := by rw [hs.ok.len, hy.ok.len, hn]
 have hbig : s.2.2.1.length ≤ 2000 := by have := hs.ok.len; have := hs.hi; omega
 refine ⟨trivial, fun _ => qah (fun h => absurd (h.symm.trans hv) (by decide)) fun _ => ⟨trivial, fun _ => qah (fun h => absurd (h.symm.trans hv2) (by decide)) fun _ => ⟨Nat.zero_lt_one, fun _ => ⟨rfl, fun _ _ _ => ?_⟩⟩⟩⟩
 refine qah (fun h => absurd hn (bne_t h)) fun _ => ⟨Nat.zero_lt_one, fun _ => ⟨Nat.zero_lt_one, fun _ => ?_⟩⟩
 have main : ∀ i, i ≤ s.2.2.1.length → Runs E_B4 (qbb (some y) (chgd s.2.2.1 y.2.2.1 i) (s.2.2.1.length : Int) (i : Int) hd1 (s.1, s.2.1, stp s.2.2.1 y.2.2.1 i, s.2.2.2)) (fun r_ h_ => r_ = (vb (unionR s (some y))) ∧ h_ = (0, ⟨(.pins [.g 1 1 hd1]), 0, [], false, none⟩) :: [(1, ⟨.arr 1 40 qaa [unionS s (some y)], 1, [], false, none⟩)]) := by
  refine qcl ?_ fun i hi ih => ?_
  ·refine .tree E_B4_ok (qda _ _ _ _ _ _) ?_
   refine qah (fun h => absurd (of_decide_eq_true h) (Int.lt_irrefl _)) fun _ => ?_
   refine ⟨?_, ?_⟩
   ·rw [chgd_all]; rfl
   ·rw [stp_all]; rfl
  ·refine .tree E_B4_ok (qda _ _ _ _ _ _) ?_
   have hl : ln (.int .u64) (stp s.2.2.1 y.2.2.1 i) = s.2.2.1.length := stp_len _ _ _
   have hl2 : ln (.int .u64) y.2.2.1 = s.2.2.1.length := hlen.symm
   have hg : gd (.int .u64) (stp s.2.2.1 y.2.2.1 i) i = s.2.2.1.getD i 0 := stp_get hi
   have hst : st (.int .u64) (stp s.2.2.1 y.2.2.1 i) i (orW (s.2.2.1.getD i 0) (gd (.int .u64) y.2.2.1 i)) = stp s.2.2.1 y.2.2.1 (i + 1) := stp_set hi
   have hw : IntKind.wrap .i64 ((i : Int) + 1) = ((i + 1 : Nat) : Int) := wrap64 _ (by omega) (by omega)
   have hc := chgd_succ s.2.2.1 y.2.2.1 i
   simp only [Int.toNat_natCast, hl, hl2, hg, hst, hw]
   refine qah (fun _ => ?_) fun h => absurd (Int.ofNat_lt.2 hi) (of_decide_eq_false h)
   have hr : 0 ≤ (i : Int) ∧ (i : Int) < (s.2.2.1.length : Int) := ⟨Int.natCast_nonneg _, Int.ofNat_lt.2 hi⟩
   refine ⟨Nat.zero_lt_one, fun _ => ⟨Nat.zero_lt_one, fun _ => ⟨hr, fun _ => ⟨Nat.zero_lt_one, fun _ => ⟨hi, fun _ => ⟨rfl, fun _ => ⟨?_, fun _ => ⟨trivial, fun _ _ => ?_⟩⟩⟩⟩⟩⟩⟩⟩
   ·rw [show ln (.int .u64) (oG qaa (some y)).2.2.1 = s.2.2.1.length from hl2]
    exact hr
   refine qah (fun h => ?_) fun h => ?_
   ·refine ⟨Nat.zero_lt_one, fun _ => ⟨Nat.zero_lt_one, fun _ => ⟨hr, fun _ => ⟨Nat.zero_lt_one, fun _ => ⟨hi, fun _ => ?_⟩⟩⟩⟩⟩
    rw [h, Bool.true_or] at hc
    rw [hc] at ih
    simp only [show oG qaa (some y) = y from rfl, hst]
    exact ih
   ·refine ⟨Nat.zero_lt_one, fun _ => ⟨Nat.zero_lt_one, fun _ => ⟨hr, fun _ => ⟨Nat.zero_lt_one, fun _ => ⟨hi, fun _ => ⟨Nat.zero_lt_one, fun _ => ⟨Nat.zero_lt_one, fun _ => ⟨hr, fun _ => ⟨Nat.zero_lt_one, fun _ => ⟨hi, fun _ => ?_⟩⟩⟩⟩⟩⟩⟩⟩⟩⟩
    rw [h, Bool.false_or] at hc
    rw [hc] at ih
    simp only [show oG qaa (some y) = y from rfl, hst]
    exact ih
 have h0 := main 0 (Nat.zero_le _)
 rw [stp_zero] at h0
 exact h0)
theorem c_bitset_Set_Union : qbn E_B4 qbd [1] k_bitset_Set_Union.spec := spec_ofIO fun x l hx hp hl => by
 obtain ⟨hd1, rfl⟩ := pins1 hl
 exact ⟨rfl, m_bitset_Set_Union x.1 x.2.1 hd1 hx.1 hx.2.1 hp⟩
def L_B4 : List (FuncId × FSpec) := [] ++ L_B3
theorem L_B4_ok : ∀ x ∈ L_B4, qas (ctx []) x.1 x.2 := L_B3_ok
def LI_B4 : List IoT := [(qbd, [1], k_bitset_Set_Union.spec)] ++ LI_B3
theorem LI_B4_ok : ∀ x ∈ LI_B4, qbn (ctx []) x.1 x.2.1 x.2.2 := by
 unfold LI_B4
 simp only [List.cons_append, List.nil_append, List.forall_mem_cons]
 exact ⟨c_bitset_Set_Union, LI_B3_ok⟩
end Burn.M21
namespace Burn.M21
open Go Go.BE Go.Proofs
set_option maxRecDepth 100000
set_option linter.unusedVariables false
set_option linter.unusedSimpArgs false
open Burn.Cfg
noncomputable abbrev E_B5 : Ctx := ctx L_B4 LI_B4
theorem E_B5_ok : EOK E_B5 := ctx_ok L_B4_ok LI_B4_ok
def cuts_B5 : CutL := []
def rets_B5 : FuncId → List (Option Fx)
 | 44 => [some (.own 8 I)]
 | _ => []
def H_B5 : Hints := { cut := cutOf cuts_B5, ret := rets_B5 }
theorem cfg_own_t (l : List (Den I)) : run E_B5 H_B5 f_cfg_own 3000 (start E_B5 f_cfg_own [(.tv (.sl 8 I) l)]) = (.chk (((0 : Nat) + (ln I l)) * 8 ≤ roomB) (.chk (((ln I (ap I ([] : List (Den I)) l)) : Int) = ((ln I (ap I ([] : List (Den I)) l)) : Int)) (.chk (((ln I (ap I ([] : List (Den I)) l)) : Int) = ((ln I (ap I ([] : List (Den I)) l)) : Int)) (rt (.osl 0 0 [] none) [(0, ⟨(.arr 0 8 I (ap I ([] : List (Den I)) l)), 0, [], false, none⟩)])))) := by kernel_rfl
theorem cfg_inside_t (f : Den qad) (at_ : Den qag) : run E_B5 H_B5 f_cfg_inside 3000 (start E_B5 f_cfg_inside [(.tv qad f), (.tv qag at_)]) = (cond (decide ((z at_.1) ≥ (0 : Int))) (cond (decide ((z at_.1) < ((ln qab f.2.2.2.2.1) : Int))) (cond (decide ((z at_.2.1) ≥ (-1 : Int))) (.chk (0 ≤ (z at_.1) ∧ (z at_.1) < (ln qab f.2.2.2.2.1)) (rt (vb (decide ((z at_.2.1) ≤ ((ln qaf ((gd qab f.2.2.2.2.1 (((z at_.1)).toNat)).2.1)) : Int)))) [])) (rt (vb false) [])) (rt (vb false) [])) (rt (vb false) [])) := by kernel_rfl
theorem r20_In_t (f : Den qad) (at_ : Den qag) : run E_B5 H_B5 f_r20_In 3000 (start E_B5 f_r20_In [(.tv qad f), (.tv qag at_)]) = (cond (decide ((z at_.1) ≥ (0 : Int))) (cond (decide ((z at_.1) < ((ln qab f.2.2.2.2.1) : Int))) (cond (decide ((z at_.2.1) ≥ (-1 : Int))) (.chk (0 ≤ (z at_.1) ∧ (z at_.1) < (ln qab f.2.2.2.2.1)) (rt (vb (decide ((z at_.2.1) ≤ ((ln qaf ((gd qab f.2.2.2.2.1 (((z at_.1)).toNat)).2.1)) : Int)))) [])) (rt (vb false) [])) (rt (vb false) [])) (rt (vb false) [])) := by kernel_rfl
abbrev Fn := Den qad
abbrev Blk := Den qab
abbrev qat (f : Fn) : List (Den qab) := f.2.2.2.2.1
abbrev bIns (b : Blk) : List (Den qaf) := b.2.1
abbrev bPar (b : Blk) : List (Den I) := b.1
abbrev tArgs (b : Blk) : List (Den I) := b.2.2.1.2.1
abbrev tSuc (b : Blk) : List (Den qae) := b.2.2.1.2.2.2.1
abbrev iArgs (i : Den qaf) : List (Den I) := i.2.2.2.1
abbrev iDst (i : Den qaf) : Int := i.2.2.1
abbrev blk (f : Fn) (n : Int) : Blk := gd qab (qat f) n.toNat
def qdd (f : Fn) (p : Den qag) : Bool := decide (z p.1 ≥ 0) && (decide (z p.1 < (ln qab (qat f) : Int)) && (decide (z p.2.1 ≥ -1) && decide (z p.2.1 ≤ (ln qaf (bIns (blk f (z p.1))) : Int))))
def idL (l : List (Den I)) : Den (.sl 8 I) := l
def okB (l : List (Den qab)) : Prop := room 136 (ln qab l) ∧ ∀ i, i < ln qab l → okD qab (gd qab l i)
theorem okB_of {f : Fn} (h : okD qad f) : okB (qat f) := by
 obtain ⟨_, _, _, _, h1, _⟩ := h
 exact ⟨h1.1, fun i hi => ok_gd h1 hi⟩
theorem okB_suc {l : List (Den qab)} (h : okB l) {i : Nat} (hi : i < ln qab l) : okD (.sl 32 qae) (tSuc (gd qab l i)) := (h.2 i hi).2.2.1.2.2.2.1

def k_cfg_own : Con := conO 99 [.d (.sl 8 I)] (.sl 8 I) (fun x => True) fun x => idL x.1
theorem m_cfg_own (l : List (Den I)) (h_l : okD (.sl 8 I) l) (hp : True) : Runs E_B5 (start E_B5 f_cfg_own [(.tv (.sl 8 I) l)]) (fun r_ h_ => r_ = (ownRes 99 (.sl 8 I) (idL l)).1 ∧ h_ = (ownRes 99 (.sl 8 I) (idL l)).2) := .tree E_B5_ok (cfg_own_t l) (by
 simp only [sS]
 have := h_l.1.1
 rw [Nat.zero_add]
 exact ⟨this, fun _ => ⟨rfl, rfl⟩⟩)
theorem c_cfg_own : qas E_B5 f_cfg_own k_cfg_own.spec := qbg fun x hx hp => ⟨rfl, m_cfg_own x.1 hx.1 hp⟩

def k_cfg_inside : Con := con [.d qad, .d qag] .bool (fun x => True) fun x => qdd x.1 x.2.1
theorem m_cfg_inside (f : Den qad) (at_ : Den qag) (h_f : okD qad f) (h_at_ : okD qag at_) (hp : True) : Runs E_B5 (start E_B5 f_cfg_inside [(.tv qad f), (.tv qag at_)]) (fun r_ h_ => r_ = (vb (qdd f at_)) ∧ h_ = []) := .tree E_B5_ok (cfg_inside_t f at_) (by
 unfold qdd
 simp only [sS]
 refine ⟨fun h0 => ⟨fun h1 => ⟨fun h2 => ?_, fun h2 => ?_⟩, fun h1 => ?_⟩, fun h0 => ?_⟩
 ·have a := of_decide_eq_true h0
  have b := of_decide_eq_true h1
  rw [h0, h1, h2]
  exact ⟨⟨a, b⟩, fun _ => rfl⟩
 ·rw [h0, h1, h2]; rfl
 ·rw [h0, h1]; rfl
 ·rw [h0]; rfl)
theorem c_cfg_inside : qas E_B5 f_cfg_inside k_cfg_inside.spec := qbg fun x hx hp => ⟨rfl, m_cfg_inside x.1 x.2.1 hx.1 hx.2.1 hp⟩

def k_r20_In : Con := con [.d qad, .d qag] .bool (fun x => True) fun x => qdd x.1 x.2.1
theorem m_r20_In (f : Den qad) (at_ : Den qag) (h_f : okD qad f) (h_at_ : okD qag at_) (hp : True) : Runs E_B5 (start E_B5 f_r20_In [(.tv qad f), (.tv qag at_)]) (fun r_ h_ => r_ = (vb (qdd f at_)) ∧ h_ = []) := .tree E_B5_ok (r20_In_t f at_) (by
 unfold qdd
 simp only [sS]
 refine ⟨fun h0 => ⟨fun h1 => ⟨fun h2 => ?_, fun h2 => ?_⟩, fun h1 => ?_⟩, fun h0 => ?_⟩
 ·have a := of_decide_eq_true h0
  have b := of_decide_eq_true h1
  rw [h0, h1, h2]
  exact ⟨⟨a, b⟩, fun _ => rfl⟩
 ·rw [h0, h1, h2]; rfl
 ·rw [h0, h1]; rfl
 ·rw [h0]; rfl)
theorem c_r20_In : qas E_B5 f_r20_In k_r20_In.spec := qbg fun x hx hp => ⟨rfl, m_r20_In x.1 x.2.1 hx.1 hx.2.1 hp⟩
def L_B5 : List (FuncId × FSpec) := [(f_cfg_own, k_cfg_own.spec), (f_cfg_inside, k_cfg_inside.spec), (f_r20_In, k_r20_In.spec)] ++ L_B4
theorem L_B5_ok : ∀ x ∈ L_B5, qas (ctx []) x.1 x.2 := by
 unfold L_B5
 simp only [List.cons_append, List.nil_append, List.forall_mem_cons]
 exact ⟨c_cfg_own, c_cfg_inside, c_r20_In, L_B4_ok⟩
def LI_B5 : List IoT := [] ++ LI_B4
theorem LI_B5_ok : ∀ x ∈ LI_B5, qbn (ctx []) x.1 x.2.1 x.2.2 := by
 unfold LI_B5
 simp only [List.cons_append, List.nil_append, List.forall_mem_cons]
 exact LI_B4_ok
end Burn.M21
namespace Burn.M21
open Go Go.BE Go.Proofs
set_option maxRecDepth 100000
set_option linter.unusedVariables false
set_option linter.unusedSimpArgs false
open Burn.Cfg
noncomputable abbrev E_B6 : Ctx := ctx L_B5 LI_B5
theorem E_B6_ok : EOK E_B6 := ctx_ok L_B5_ok LI_B5_ok
def cuts_B6 : CutL := [([], 16, 0, [5, 47, 48, 49], [], []),
 ([], 34, 0, [6, 44, 45, 46], [], [])]
def rets_B6 : FuncId → List (Option Fx)
 | 16 => [some (.dat (.sl 8 I))]
 | 17 => [some (.dat (.sl 8 I))]
 | 32 => [some (.dat (.sl 8 I))]
 | 34 => [some (.dat (.sl 8 I))]
 | _ => []
def H_B6 : Hints := { cut := cutOf cuts_B6, ret := rets_B6 }
noncomputable def cfg_Reads_L0 (t44 : List (Den qae)) (t45 : Int) (t46 : Int) (l : List (Den I)) : Cfg := hcfg E_B6 qej 0 [(6, (.osl 0 0 [] none)), (44, (.tv (.sl 32 qae) t44)), (45, (vi t45)), (46, (vi t46))] [(0, ⟨(.arr 0 8 I l), 0, [], false, none⟩)] 1
theorem cfg_Reads_t (f : Den qad) (at_ : Den qag) : run E_B6 H_B6 qej 3000 (start E_B6 qej [(.tv qad f), (.tv qag at_)]) = (.chk (True) (.know True (cond (!(qdd f at_)) (rt (.tv (.sl 8 I) ([] : List (Den I))) []) (cond (decide ((z at_.2.1) < (0 : Int))) (rt (.tv (.sl 8 I) ([] : List (Den I))) []) (.chk (0 ≤ (z at_.1) ∧ (z at_.1) < (ln qab f.2.2.2.2.1)) (cond (decide ((z at_.2.1) < ((ln qaf ((gd qab f.2.2.2.2.1 (((z at_.1)).toNat)).2.1)) : Int))) (.chk (0 ≤ (z at_.2.1) ∧ (z at_.2.1) < (ln qaf ((gd qab f.2.2.2.2.1 (((z at_.1)).toNat)).2.1))) (.chk (True) (.know True (rt (.tv (.sl 8 I) (idL (gd qaf ((gd qab f.2.2.2.2.1 (((z at_.1)).toNat)).2.1) (((z at_.2.1)).toNat)).2.2.2.1)) [])))) (.chk (True) (.know True (hd (cfg_Reads_L0 ((gd qab f.2.2.2.2.1 (((z at_.1)).toNat)).2.2.1.2.2.2.1) ((ln qae ((gd qab f.2.2.2.2.1 (((z at_.1)).toNat)).2.2.1.2.2.2.1)) : Int) (0 : Int) (idL (gd qab f.2.2.2.2.1 (((z at_.1)).toNat)).2.2.1.2.1))))))))))) := by kernel_rfl
theorem cfg_Reads_L0_t (t44 : List (Den qae)) (t45 : Int) (t46 : Int) (l : List (Den I)) : run E_B6 H_B6 qej 3000 (cfg_Reads_L0 t44 t45 t46 l) = (cond (decide (t46 < t45)) (.chk (0 ≤ t46 ∧ t46 < (ln qae t44)) (.chk (((ln I l) + (ln I ((gd qae t44 t46.toNat).2.1))) * 8 ≤ roomB) (hd (cfg_Reads_L0 t44 t45 (IntKind.wrap .i64 (t46 + (1 : Int))) (ap I l ((gd qae t44 t46.toNat).2.1)))))) (rt (.tv (.sl 8 I) l) [])) := by kernel_rfl
noncomputable def r20_Reads_L0 (t47 : List (Den qae)) (t48 : Int) (t49 : Int) (out : List (Den I)) : Cfg := hcfg E_B6 qeh 0 [(5, (.osl 0 0 [] none)), (47, (.tv (.sl 32 qae) t47)), (48, (vi t48)), (49, (vi t49))] [(0, ⟨(.arr 0 8 I out), 0, [], false, none⟩)] 1
theorem r20_Reads_t (f : Den qad) (at_ : Den qag) : run E_B6 H_B6 qeh 3000 (start E_B6 qeh [(.tv qad f), (.tv qag at_)]) = (.chk (True) (.know True (cond (!(qdd f at_)) (rt (.tv (.sl 8 I) ([] : List (Den I))) []) (cond (decide ((z at_.2.1) < (0 : Int))) (rt (.tv (.sl 8 I) ([] : List (Den I))) []) (.chk (0 ≤ (z at_.1) ∧ (z at_.1) < (ln qab f.2.2.2.2.1)) (cond (decide ((z at_.2.1) < ((ln qaf ((gd qab f.2.2.2.2.1 (((z at_.1)).toNat)).2.1)) : Int))) (.chk (0 ≤ (z at_.2.1) ∧ (z at_.2.1) < (ln qaf ((gd qab f.2.2.2.2.1 (((z at_.1)).toNat)).2.1))) (.chk ((ln I ((gd qaf ((gd qab f.2.2.2.2.1 (((z at_.1)).toNat)).2.1) (((z at_.2.1)).toNat)).2.2.2.1)) * 8 ≤ roomB) (rt (.tv (.sl 8 I) ((gd qaf ((gd qab f.2.2.2.2.1 (((z at_.1)).toNat)).2.1) (((z at_.2.1)).toNat)).2.2.2.1)) []))) (.chk ((ln I ((gd qab f.2.2.2.2.1 (((z at_.1)).toNat)).2.2.1.2.1)) * 8 ≤ roomB) (hd (r20_Reads_L0 ((gd qab f.2.2.2.2.1 (((z at_.1)).toNat)).2.2.1.2.2.2.1) ((ln qae ((gd qab f.2.2.2.2.1 (((z at_.1)).toNat)).2.2.1.2.2.2.1)) : Int) (0 : Int) ((gd qab f.2.2.2.2.1 (((z at_.1)).toNat)).2.2.1.2.1)))))))))) := by kernel_rfl
theorem r20_Reads_L0_t (t47 : List (Den qae)) (t48 : Int) (t49 : Int) (out : List (Den I)) : run E_B6 H_B6 qeh 3000 (r20_Reads_L0 t47 t48 t49 out) = (cond (decide (t49 < t48)) (.chk (0 ≤ t49 ∧ t49 < (ln qae t47)) (.chk (((ln I out) + (ln I ((gd qae t47 t49.toNat).2.1))) * 8 ≤ roomB) (hd (r20_Reads_L0 t47 t48 (IntKind.wrap .i64 (t49 + (1 : Int))) (ap I out ((gd qae t47 t49.toNat).2.1)))))) (rt (.tv (.sl 8 I) out) [])) := by kernel_rfl
theorem cfg_Writes_t (f : Den qad) (at_ : Den qag) : run E_B6 H_B6 f_cfg_Writes 3000 (start E_B6 f_cfg_Writes [(.tv qad f), (.tv qag at_)]) = (.chk (True) (.know True (cond (!(qdd f at_)) (rt (.tv (.sl 8 I) ([] : List (Den I))) []) (.chk (0 ≤ (z at_.1) ∧ (z at_.1) < (ln qab f.2.2.2.2.1)) (cond ((z at_.2.1) == (-1 : Int)) (cond ((z at_.1) == (0 : Int)) (.chk (True) (.chk (((ln I (idL f.2.1)) + (ln I ((gd qab f.2.2.2.2.1 (((z at_.1)).toNat)).1))) * 8 ≤ roomB) (.know True (rt (.tv (.sl 8 I) (ap I (idL f.2.1) ((gd qab f.2.2.2.2.1 (((z at_.1)).toNat)).1))) [])))) (cond ((z at_.2.1) == (-1 : Int)) (.chk (True) (.know True (rt (.tv (.sl 8 I) (idL (gd qab f.2.2.2.2.1 (((z at_.1)).toNat)).1)) []))) (cond (decide ((z at_.2.1) < ((ln qaf ((gd qab f.2.2.2.2.1 (((z at_.1)).toNat)).2.1)) : Int))) (.chk (0 ≤ (z at_.2.1) ∧ (z at_.2.1) < (ln qaf ((gd qab f.2.2.2.2.1 (((z at_.1)).toNat)).2.1))) (cond (decide ((z ((gd qaf ((gd qab f.2.2.2.2.1 (((z at_.1)).toNat)).2.1) (((z at_.2.1)).toNat)).2.2.1)) ≥ (0 : Int))) (.chk (0 ≤ (z at_.2.1) ∧ (z at_.2.1) < (ln qaf ((gd qab f.2.2.2.2.1 (((z at_.1)).toNat)).2.1))) (rt (.tv (.sl 8 I) ([(gd qaf ((gd qab f.2.2.2.2.1 (((z at_.1)).toNat)).2.1) (((z at_.2.1)).toNat)).2.2.1] : List (Den I))) [])) (rt (.tv (.sl 8 I) ([] : List (Den I))) []))) (rt (.tv (.sl 8 I) ([] : List (Den I))) [])))) (cond ((z at_.2.1) == (-1 : Int)) (.chk (True) (.know True (rt (.tv (.sl 8 I) (idL (gd qab f.2.2.2.2.1 (((z at_.1)).toNat)).1)) []))) (cond (decide ((z at_.2.1) < ((ln qaf ((gd qab f.2.2.2.2.1 (((z at_.1)).toNat)).2.1)) : Int))) (.chk (0 ≤ (z at_.2.1) ∧ (z at_.2.1) < (ln qaf ((gd qab f.2.2.2.2.1 (((z at_.1)).toNat)).2.1))) (cond (decide ((z ((gd qaf ((gd qab f.2.2.2.2.1 (((z at_.1)).toNat)).2.1) (((z at_.2.1)).toNat)).2.2.1)) ≥ (0 : Int))) (.chk (0 ≤ (z at_.2.1) ∧ (z at_.2.1) < (ln qaf ((gd qab f.2.2.2.2.1 (((z at_.1)).toNat)).2.1))) (rt (.tv (.sl 8 I) ([(gd qaf ((gd qab f.2.2.2.2.1 (((z at_.1)).toNat)).2.1) (((z at_.2.1)).toNat)).2.2.1] : List (Den I))) [])) (rt (.tv (.sl 8 I) ([] : List (Den I))) []))) (rt (.tv (.sl 8 I) ([] : List (Den I))) [])))))))) := by kernel_rfl
theorem r20_Writes_t (f : Den qad) (at_ : Den qag) : run E_B6 H_B6 f_r20_Writes 3000 (start E_B6 f_r20_Writes [(.tv qad f), (.tv qag at_)]) = (.chk (True) (.know True (cond (!(qdd f at_)) (rt (.tv (.sl 8 I) ([] : List (Den I))) []) (.chk (0 ≤ (z at_.1) ∧ (z at_.1) < (ln qab f.2.2.2.2.1)) (cond (decide ((z at_.2.1) < (0 : Int))) (cond ((z at_.1) == (0 : Int)) (.chk ((ln I f.2.1) * 8 ≤ roomB) (.chk (((ln I f.2.1) + (ln I ((gd qab f.2.2.2.2.1 (((z at_.1)).toNat)).1))) * 8 ≤ roomB) (rt (.tv (.sl 8 I) (ap I f.2.1 ((gd qab f.2.2.2.2.1 (((z at_.1)).toNat)).1))) []))) (.chk ((ln I ((gd qab f.2.2.2.2.1 (((z at_.1)).toNat)).1)) * 8 ≤ roomB) (rt (.tv (.sl 8 I) ((gd qab f.2.2.2.2.1 (((z at_.1)).toNat)).1)) []))) (cond (decide ((z at_.2.1) < ((ln qaf ((gd qab f.2.2.2.2.1 (((z at_.1)).toNat)).2.1)) : Int))) (.chk (0 ≤ (z at_.2.1) ∧ (z at_.2.1) < (ln qaf ((gd qab f.2.2.2.2.1 (((z at_.1)).toNat)).2.1))) (cond (decide ((z ((gd qaf ((gd qab f.2.2.2.2.1 (((z at_.1)).toNat)).2.1) (((z at_.2.1)).toNat)).2.2.1)) ≥ (0 : Int))) (.chk (0 ≤ (z at_.2.1) ∧ (z at_.2.1) < (ln qaf ((gd qab f.2.2.2.2.1 (((z at_.1)).toNat)).2.1))) (.chk ((1 : Nat) * 8 ≤ roomB) (rt (.tv (.sl 8 I) ([(gd qaf ((gd qab f.2.2.2.2.1 (((z at_.1)).toNat)).2.1) (((z at_.2.1)).toNat)).2.2.1] : List (Den I))) []))) (rt (.tv (.sl 8 I) ([] : List (Den I))) []))) (rt (.tv (.sl 8 I) ([] : List (Den I))) []))))))) := by kernel_rfl
def qan (f : Fn) : Prop := szD qad f ≤ 1048576
def flatA : List (Den qae) → List (Den I)
 | [] => []
 | e :: l => ap I e.2.1 (flatA l)
theorem sz_I : ∀ (l : List (Den I)), szD (.sl 8 I) l = ln I l
 | [] => rfl
 | a :: l => by
  have := sz_I l
  show 0 + 1 + szD (.sl 8 I) l = l.length + 1
  rw [this]
  unfold ln
  omega
theorem sz_cons {b : Nat} {S : Sh} {x : Den S} {l : List (Den S)} : szD (.sl b S) (x :: l) = szD S x + 1 + szD (.sl b S) l := rfl
theorem sz_mem {b : Nat} {S : Sh} : ∀ {l : List (Den S)} {i : Nat}, i < ln S l → szD S (gd S l i) + 1 ≤ szD (.sl b S) l
 | [], i, h => absurd h (Nat.not_lt_zero i)
 | x :: l, 0, h => by
  rw [sz_cons]
  show szD S x + 1 ≤ _
  omega
 | x :: l, i + 1, h => by
  have h1 : i < ln S l := Nat.lt_of_succ_lt_succ h
  have := sz_mem (b := b) h1
  rw [sz_cons]
  show szD S (gd S l i) + 1 ≤ _
  omega
theorem sz_flat : ∀ l : List (Den qae), ln I (flatA l) ≤ szD (.sl 32 qae) l
 | [] => Nat.le_refl _
 | e :: l => by
  have h := sz_flat l
  have h1 : szD qae e = 0 + (szD (.sl 8 I) e.2.1 + 0) := rfl
  rw [sz_cons, flatA, ln_ap, h1, sz_I]
  omega
theorem sz_func (f : Fn) : szD qad f = szD .str f.1 + (szD (.sl 8 I) f.2.1 + (0 + (szD (.sl 8 I) f.2.2.2.1 + (szD (.sl 136 qab) f.2.2.2.2.1 + 0)))) := rfl
theorem sz_blk (b : Blk) : szD qab b = szD (.sl 8 I) b.1 + (szD (.sl 80 qaf) b.2.1 + ((0 + (szD (.sl 8 I) b.2.2.1.2.1 + (szD (.sl 8 I) b.2.2.1.2.2.1 + (szD (.sl 32 qae) b.2.2.1.2.2.2.1 + (0 + 0))))) + 0)) := rfl
def qdz (f : Fn) (p : Den qag) : Den (.sl 8 I) := cond (!qdd f p) [] (cond (decide (z p.2.1 < 0)) [] (cond (decide (z p.2.1 < (ln qaf (bIns (blk f (z p.1))) : Int))) (iArgs (gd qaf (bIns (blk f (z p.1))) (z p.2.1).toNat)) (ap I (tArgs (blk f (z p.1))) (flatA (tSuc (blk f (z p.1)))))))
def qct (f : Fn) (p : Den qag) : Den (.sl 8 I) := cond (!qdd f p) [] (cond (decide (z p.2.1 < 0)) (cond (z p.1 == 0) (ap I f.2.1 (bPar (blk f (z p.1)))) (bPar (blk f (z p.1)))) (cond (decide (z p.2.1 < (ln qaf (bIns (blk f (z p.1))) : Int))) (cond (decide (iDst (gd qaf (bIns (blk f (z p.1))) (z p.2.1).toNat) ≥ 0)) [iDst (gd qaf (bIns (blk f (z p.1))) (z p.2.1).toNat)] []) []))
theorem inside_b {f : Fn} {p : Den qag} (h : qdd f p = true) : (0 ≤ z p.1 ∧ z p.1 < (ln qab (qat f) : Int)) ∧ (-1 ≤ z p.2.1 ∧ z p.2.1 ≤ (ln qaf (bIns (blk f (z p.1))) : Int)) := by
 unfold qdd at h
 simp only [Bool.and_eq_true, decide_eq_true_eq] at h
 exact ⟨⟨h.1, h.2.1⟩, h.2.2.1, h.2.2.2⟩
theorem small_b {f : Fn} (hp : qan f) {n : Int} (h : 0 ≤ n ∧ n < (ln qab (qat f) : Int)) : szD qab (blk f n) + ln I f.2.1 ≤ 1048576 := by
 have h1 := sz_mem (b := 136) (l := qat f) (i := n.toNat) (by omega)
 have h2 := sz_func f
 have h3 := sz_I f.2.1
 unfold qan at hp
 unfold blk
 have e : qat f = f.2.2.2.2.1 := rfl
 rw [e] at h1 ⊢
 omega
theorem roomS {n : Nat} (h : n ≤ 4194304) : n * 8 ≤ roomB := by
 unfold roomB
 omega
theorem cfg_Reads_l (l : List (Den qae)) (hr : room 32 (ln qae l)) : ∀ i, i ≤ ln qae l → ∀ o : List (Den I), ln I o + ln I (flatA (l.drop i)) ≤ 1048576 → Runs E_B6 (cfg_Reads_L0 l (ln qae l : Nat) i o) (fun x h => x = .tv (.sl 8 I) (ap I o (flatA (l.drop i))) ∧ h = []) :=
 qcl (fun o ho => .tree E_B6_ok (cfg_Reads_L0_t _ _ _ _) (by
  rw [drop_ln]
  simp only [sS, sL,  flatA]
  unfold ap
  rw [List.append_nil]))
  fun i hi ih o ho => .tree E_B6_ok (cfg_Reads_L0_t _ _ _ _) (by
   rw [qdq hi, flatA, ln_ap] at ho
   simp only [sS, sL,  hi, wrapS hi (qcf hr)]
   refine ⟨roomS (by omega), fun _ => ?_⟩
   have := ih (ap I o (gd qae l i).2.1) (by rw [ln_ap]; omega)
   rw [qdq hi, flatA]
   unfold ap at this ⊢
   rw [← List.append_assoc]
   exact this)
def k_cfg_Reads : Con := con [.d qad, .d qag] (.sl 8 I) (fun x => qan x.1) fun x => qdz x.1 x.2.1
theorem m_cfg_Reads (f : Den qad) (at_ : Den qag) (h_f : okD qad f) (h_at_ : okD qag at_) (hp : qan f) : Runs E_B6 (start E_B6 qej [(.tv qad f), (.tv qag at_)]) (fun r_ h_ => r_ = (.tv (.sl 8 I) (qdz f at_)) ∧ h_ = []) := .tree E_B6_ok (cfg_Reads_t f at_) (by
 unfold qdz
 simp only [sS]
 refine ⟨fun h => ?_, fun h => ⟨fun h2 => ?_, fun h2 => ?_⟩⟩
 ·rw [h]; rfl
 ·rw [h, h2]; rfl
 ·have hi : qdd f at_ = true := by simpa using h
  have b := inside_b hi
  have sb := small_b hp b.1
  have a2 := of_decide_eq_false h2
  rw [h, h2]
  refine ⟨b.1, fun _ => ⟨fun h3 => ?_, fun h3 => ?_⟩⟩
  ·rw [h3]
   exact ⟨⟨by omega, of_decide_eq_true h3⟩, fun _ => rfl⟩
  ·rw [h3]
   have hb := sz_blk (blk f (z at_.1))
   have hf := sz_flat (blk f (z at_.1)).2.2.1.2.2.2.1
   have ha := sz_I (blk f (z at_.1)).2.2.1.2.1
   have hbn : (z at_.1).toNat < ln qab (qat f) := by omega
   exact cfg_Reads_l _ (okB_suc (okB_of h_f) hbn).1 0 (Nat.zero_le _) _ (by
    show ln I (blk f (z at_.1)).2.2.1.2.1 + ln I (flatA (blk f (z at_.1)).2.2.1.2.2.2.1) ≤ _
    omega))
theorem c_cfg_Reads : qas E_B6 qej k_cfg_Reads.spec := qbg fun x hx hp => ⟨rfl, m_cfg_Reads x.1 x.2.1 hx.1 hx.2.1 hp⟩
theorem r20_Reads_l (l : List (Den qae)) (hr : room 32 (ln qae l)) : ∀ i, i ≤ ln qae l → ∀ o : List (Den I), ln I o + ln I (flatA (l.drop i)) ≤ 1048576 → Runs E_B6 (r20_Reads_L0 l (ln qae l : Nat) i o) (fun x h => x = .tv (.sl 8 I) (ap I o (flatA (l.drop i))) ∧ h = []) :=
 qcl (fun o ho => .tree E_B6_ok (r20_Reads_L0_t _ _ _ _) (by
  rw [drop_ln]
  simp only [sS, sL,  flatA]
  unfold ap
  rw [List.append_nil]))
  fun i hi ih o ho => .tree E_B6_ok (r20_Reads_L0_t _ _ _ _) (by
   rw [qdq hi, flatA, ln_ap] at ho
   simp only [sS, sL,  hi, wrapS hi (qcf hr)]
   refine ⟨roomS (by omega), fun _ => ?_⟩
   have := ih (ap I o (gd qae l i).2.1) (by rw [ln_ap]; omega)
   rw [qdq hi, flatA]
   unfold ap at this ⊢
   rw [← List.append_assoc]
   exact this)
def k_r20_Reads : Con := con [.d qad, .d qag] (.sl 8 I) (fun x => qan x.1) fun x => qdz x.1 x.2.1
theorem m_r20_Reads (f : Den qad) (at_ : Den qag) (h_f : okD qad f) (h_at_ : okD qag at_) (hp : qan f) : Runs E_B6 (start E_B6 qeh [(.tv qad f), (.tv qag at_)]) (fun r_ h_ => r_ = (.tv (.sl 8 I) (qdz f at_)) ∧ h_ = []) := .tree E_B6_ok (r20_Reads_t f at_) (by
 unfold qdz
 simp only [sS]
 refine ⟨fun h => ?_, fun h => ⟨fun h2 => ?_, fun h2 => ?_⟩⟩
 ·rw [h]; rfl
 ·rw [h, h2]; rfl
 ·have hi : qdd f at_ = true := by simpa using h
  have b := inside_b hi
  have sb := small_b hp b.1
  have a2 := of_decide_eq_false h2
  have hbn : (z at_.1).toNat < ln qab (qat f) := by omega
  have hob := (okB_of h_f).2 _ hbn
  rw [h, h2]
  refine ⟨b.1, fun _ => ⟨fun h3 => ?_, fun h3 => ?_⟩⟩
  ·rw [h3]
   have a3 := of_decide_eq_true h3
   have a3' : z at_.2.1 < (ln qaf (blk f (z at_.1)).2.1 : Int) := a3
   have hx : (z at_.2.1).toNat < ln qaf (blk f (z at_.1)).2.1 := by omega
   exact ⟨⟨by omega, a3⟩, fun _ => ⟨(ok_gd hob.2.1 hx).2.2.2.1.1.1, fun _ => rfl⟩⟩
  ·rw [h3]
   have hb := sz_blk (blk f (z at_.1))
   have hf := sz_flat (blk f (z at_.1)).2.2.1.2.2.2.1
   have ha := sz_I (blk f (z at_.1)).2.2.1.2.1
   exact ⟨hob.2.2.1.2.1.1.1, fun _ => r20_Reads_l _ (okB_suc (okB_of h_f) hbn).1 0 (Nat.zero_le _) _ (by
    show ln I (blk f (z at_.1)).2.2.1.2.1 + ln I (flatA (blk f (z at_.1)).2.2.1.2.2.2.1) ≤ _
    omega)⟩)
theorem c_r20_Reads : qas E_B6 qeh k_r20_Reads.spec := qbg fun x hx hp => ⟨rfl, m_r20_Reads x.1 x.2.1 hx.1 hx.2.1 hp⟩

def k_cfg_Writes : Con := con [.d qad, .d qag] (.sl 8 I) (fun x => qan x.1) fun x => qct x.1 x.2.1
theorem m_cfg_Writes (f : Den qad) (at_ : Den qag) (h_f : okD qad f) (h_at_ : okD qag at_) (hp : qan f) : Runs E_B6 (start E_B6 f_cfg_Writes [(.tv qad f), (.tv qag at_)]) (fun r_ h_ => r_ = (.tv (.sl 8 I) (qct f at_)) ∧ h_ = []) := .tree E_B6_ok (cfg_Writes_t f at_) (by
 unfold qct
 simp only [sS]
 refine ⟨fun h => ?_, fun h => ?_⟩
 ·rw [h]; rfl
 have hi : qdd f at_ = true := by simpa using h
 have b := inside_b hi
 have sb := small_b hp b.1
 have hbn : (z at_.1).toNat < ln qab (qat f) := by omega
 have hob := (okB_of h_f).2 _ hbn
 have hb := sz_blk (blk f (z at_.1))
 have h1 := sz_I (blk f (z at_.1)).1
 have hroom : (ln I f.2.1 + ln I (blk f (z at_.1)).1) * 8 ≤ roomB := roomS (by omega)
 rw [h]
 refine ⟨b.1, fun _ => ⟨fun h2 => ?_, fun h2 => ?_⟩⟩
 ·have e2 : z at_.2.1 = -1 := by simpa using h2
  have d2 : decide (z at_.2.1 < 0) = true := by rw [e2]; rfl
  rw [d2]
  refine ⟨fun h3 => ?_, fun h3 => ?_⟩
  ·rw [h3]
   exact ⟨hroom, fun _ => rfl⟩
  ·rw [h3]
   refine ⟨fun _ => rfl, fun h4 => absurd (h2.symm.trans h4) (by decide)⟩
 ·have d2 : decide (z at_.2.1 < 0) = false := by
   have e2 : z at_.2.1 ≠ -1 := by simpa using h2
   have := b.2.1
   simp only [decide_eq_false_iff_not]
   omega
  rw [d2]
  have a2 := of_decide_eq_false d2
  refine ⟨fun h4 => absurd (h2.symm.trans h4) (by decide), fun _ => ⟨fun h3 => ?_, fun h3 => ?_⟩⟩
  ·rw [h3]
   have a3 := of_decide_eq_true h3
   have f1 : 0 ≤ z at_.2.1 ∧ z at_.2.1 < (ln qaf (gd qab f.2.2.2.2.1 (z at_.1).toNat).2.1 : Int) := ⟨by omega, a3⟩
   refine ⟨f1, fun _ => ⟨fun h4 => ⟨f1, fun _ => ?_⟩, fun h4 => ?_⟩⟩
   ·rw [show decide (iDst (gd qaf (bIns (blk f (z at_.1))) (z at_.2.1).toNat) ≥ 0) = true from h4]
    rfl
   ·rw [show decide (iDst (gd qaf (bIns (blk f (z at_.1))) (z at_.2.1).toNat) ≥ 0) = false from h4]
    rfl
  ·rw [h3]
   rfl)
theorem c_cfg_Writes : qas E_B6 f_cfg_Writes k_cfg_Writes.spec := qbg fun x hx hp => ⟨rfl, m_cfg_Writes x.1 x.2.1 hx.1 hx.2.1 hp⟩

def k_r20_Writes : Con := con [.d qad, .d qag] (.sl 8 I) (fun x => qan x.1) fun x => qct x.1 x.2.1
theorem m_r20_Writes (f : Den qad) (at_ : Den qag) (h_f : okD qad f) (h_at_ : okD qag at_) (hp : qan f) : Runs E_B6 (start E_B6 f_r20_Writes [(.tv qad f), (.tv qag at_)]) (fun r_ h_ => r_ = (.tv (.sl 8 I) (qct f at_)) ∧ h_ = []) := .tree E_B6_ok (r20_Writes_t f at_) (by
 unfold qct
 simp only [sS]
 refine ⟨fun h => ?_, fun h => ?_⟩
 ·rw [h]; rfl
 have hi : qdd f at_ = true := by simpa using h
 have b := inside_b hi
 have sb := small_b hp b.1
 have hbn : (z at_.1).toNat < ln qab (qat f) := by omega
 have hob := (okB_of h_f).2 _ hbn
 have hb := sz_blk (blk f (z at_.1))
 have h1 := sz_I (blk f (z at_.1)).1
 have hroom : (ln I f.2.1 + ln I (blk f (z at_.1)).1) * 8 ≤ roomB := roomS (by omega)
 rw [h]
 refine ⟨b.1, fun _ => ⟨fun h2 => ?_, fun h2 => ?_⟩⟩
 ·rw [h2]
  refine ⟨fun h3 => ?_, fun h3 => ?_⟩
  ·rw [h3]
   exact ⟨h_f.2.1.1.1, fun _ => ⟨hroom, fun _ => rfl⟩⟩
  ·rw [h3]
   exact ⟨hob.1.1.1, fun _ => rfl⟩
 ·rw [h2]
  have a2 := of_decide_eq_false h2
  refine ⟨fun h3 => ?_, fun h3 => ?_⟩
  ·rw [h3]
   have a3 := of_decide_eq_true h3
   have f1 : 0 ≤ z at_.2.1 ∧ z at_.2.1 < (ln qaf (gd qab f.2.2.2.2.1 (z at_.1).toNat).2.1 : Int) := ⟨by omega, a3⟩
   refine ⟨f1, fun _ => ⟨fun h4 => ⟨f1, fun _ => ⟨by decide, fun _ => ?_⟩⟩, fun h4 => ?_⟩⟩
   ·rw [show decide (iDst (gd qaf (bIns (blk f (z at_.1))) (z at_.2.1).toNat) ≥ 0) = true from h4]
    rfl
   ·rw [show decide (iDst (gd qaf (bIns (blk f (z at_.1))) (z at_.2.1).toNat) ≥ 0) = false from h4]
    rfl
  ·rw [h3]
   rfl)
theorem c_r20_Writes : qas E_B6 f_r20_Writes k_r20_Writes.spec := qbg fun x hx hp => ⟨rfl, m_r20_Writes x.1 x.2.1 hx.1 hx.2.1 hp⟩
def L_B6 : List (FuncId × FSpec) := [(qej, k_cfg_Reads.spec), (qeh, k_r20_Reads.spec), (f_cfg_Writes, k_cfg_Writes.spec), (f_r20_Writes, k_r20_Writes.spec)] ++ L_B5
theorem L_B6_ok : ∀ x ∈ L_B6, qas (ctx []) x.1 x.2 := by
 unfold L_B6
 simp only [List.cons_append, List.nil_append, List.forall_mem_cons]
 exact ⟨c_cfg_Reads, c_r20_Reads, c_cfg_Writes, c_r20_Writes, L_B5_ok⟩
def LI_B6 : List IoT := [] ++ LI_B5
theorem LI_B6_ok : ∀ x ∈ LI_B6, qbn (ctx []) x.1 x.2.1 x.2.2 := by
 unfold LI_B6
 simp only [List.cons_append, List.nil_append, List.forall_mem_cons]
 exact LI_B5_ok
end Burn.M21
namespace Burn.M21
open Go Go.BE Go.Proofs
set_option maxRecDepth 100000
set_option linter.unusedVariables false
set_option linter.unusedSimpArgs false
open Burn.Cfg
open Burn.Bit
noncomputable abbrev E_B7 : Ctx := ctx L_B6 LI_B6
theorem E_B7_ok : EOK E_B7 := ctx_ok L_B6_ok LI_B6_ok
def cuts_B7 : CutL := [([], 24, 0, [2, 3, 5, 9, 10], [], []),
 ([(24, 1732)], 31, 0, [1, 2, 3, 13, 14, 15], [], [[2, 3, 5, 9, 10]]),
 ([(24, 1732)], 31, 2, [2, 28, 29, 30], [], [[2, 3, 5, 9, 10]])]
def rets_B7 : FuncId → List (Option Fx)
 | _ => []
def H_B7 : Hints := { cut := cutOf cuts_B7, ret := rets_B7 }
noncomputable def qaw (b : Int) (index : Int) (step_0 : Den qac) (i : Int) (hd_ : Hd) (r1 : Den qaa) : Cfg := hcfg E_B7 qal 0 [(2, (vi b)), (3, (vi index)), (5, (.ref 2 0)), (9, (.fn qay [(.rop [(.rtp qac step_0)] 0), (.ref 2 0)])), (10, (vi i))] [(0, ⟨(.pins [.g 1 1 hd_]), 0, [], false, none⟩), (1, ⟨(.arr 1 40 qaa ([r1] : List (Den qaa))), 1, [], false, none⟩), (2, ⟨(.cells [(.tref 1 1 [] (0 : Nat) [])]), 2, [], false, none⟩)] 3
noncomputable def qbi (t1 : Den qac) (at_0 : Int) (at_1 : Int) (t13 : List (Den I)) (t14 : Int) (t15 : Int) (b : Int) (index : Int) (step_0 : Den qac) (i : Int) (hd_ : Hd) (r1 : Den qaa) : Cfg := hcfgx E_B7 qay 0 [(1, (.rop [(.rtp qac t1)] 0)), (2, (.ref 2 0)), (3, (.rop [(vi at_0), (vi at_1)] 0)), (13, (.tv (.sl 8 I) t13)), (14, (vi t14)), (15, (vi t15))] [(0, ⟨(.pins [.g 1 1 hd_]), 0, [], false, none⟩), (1, ⟨(.arr 1 40 qaa ([r1] : List (Den qaa))), 1, [], false, none⟩), (2, ⟨(.cells [(.tref 1 1 [] (0 : Nat) [])]), 2, [], false, none⟩)] 3 [cfr E_B7 qal 1 [(2, (vi b)), (3, (vi index)), (5, (.ref 2 0)), (9, (.fn qay [(.rop [(.rtp qac step_0)] 0), (.ref 2 0)])), (10, (vi i))]]
noncomputable def qbh (t28 : List (Den I)) (t29 : Int) (t30 : Int) (b : Int) (index : Int) (step_0 : Den qac) (i : Int) (hd_ : Hd) (r1 : Den qaa) : Cfg := hcfgx E_B7 qay 2 [(2, (.ref 2 0)), (28, (.tv (.sl 8 I) t28)), (29, (vi t29)), (30, (vi t30))] [(0, ⟨(.pins [.g 1 1 hd_]), 0, [], false, none⟩), (1, ⟨(.arr 1 40 qaa ([r1] : List (Den qaa))), 1, [], false, none⟩), (2, ⟨(.cells [(.tref 1 1 [] (0 : Nat) [])]), 2, [], false, none⟩)] 3 [cfr E_B7 qal 1 [(2, (vi b)), (3, (vi index)), (5, (.ref 2 0)), (9, (.fn qay [(.rop [(.rtp qac step_0)] 0), (.ref 2 0)])), (10, (vi i))]]
theorem liveness_analysis_back_t (a : Den qac) (live : Den qaa) (b : Int) (index : Int) (hd1 : Hd) : run E_B7 H_B7 qal 3000 (startH E_B7 qal [(.rtp qac a), (.tref 1 1 [] (0 : Nat) []), (vi b), (vi index)] [.g 1 1 hd1] [(1, ⟨(.arr 1 40 qaa ([live] : List (Den qaa))), 1, [], false, none⟩)]) = (.chk (0 ≤ b ∧ b < (ln qab a.1.2.2.2.2.1)) (hd (qaw b index a ((ln qaf ((gd qab a.1.2.2.2.2.1 b.toNat).2.1)) : Int) hd1 live))) := by kernel_rfl
theorem qdm (b : Int) (index : Int) (step_0 : Den qac) (i : Int) (hd_ : Hd) (r1 : Den qaa) : run E_B7 H_B7 qal 3000 (qaw b index step_0 i hd_ r1) = (cond (decide (i ≥ index)) (.chk (qan step_0.1) (.know (okD (.sl 8 I) (qct step_0.1 (b, i, ()))) (hd (qbi step_0 b i (qct step_0.1 (b, i, ())) ((ln I (qct step_0.1 (b, i, ()))) : Int) (0 : Int) b index step_0 i hd_ r1)))) (rt (.tref 1 1 [] (0 : Nat) []) [(0, ⟨(.pins [.g 1 1 hd_]), 0, [], false, none⟩), (1, ⟨(.arr 1 40 qaa ([r1] : List (Den qaa))), 1, [], false, none⟩)])) := by kernel_rfl
theorem qco (t1 : Den qac) (at_0 : Int) (at_1 : Int) (t13 : List (Den I)) (t14 : Int) (t15 : Int) (b : Int) (index : Int) (step_0 : Den qac) (i : Int) (hd_ : Hd) (r1 : Den qaa) : run E_B7 H_B7 qal 3000 (qbi t1 at_0 at_1 t13 t14 t15 b index step_0 i hd_ r1) = (cond (decide (t15 < t14)) (.chk (0 ≤ t15 ∧ t15 < (ln I t13)) (.chk (WF r1) (.know True (hd (qbi t1 at_0 at_1 t13 t14 (IntKind.wrap .i64 (t15 + (1 : Int))) b index step_0 i hd_ (remS r1 (gd I t13 t15.toNat))))))) (.chk (qan t1.1) (.know (okD (.sl 8 I) (qdz t1.1 (at_0, at_1, ()))) (hd (qbh (qdz t1.1 (at_0, at_1, ())) ((ln I (qdz t1.1 (at_0, at_1, ()))) : Int) (0 : Int) b index step_0 i hd_ r1))))) := by kernel_rfl
theorem qcn (t28 : List (Den I)) (t29 : Int) (t30 : Int) (b : Int) (index : Int) (step_0 : Den qac) (i : Int) (hd_ : Hd) (r1 : Den qaa) : run E_B7 H_B7 qal 3000 (qbh t28 t29 t30 b index step_0 i hd_ r1) = (cond (decide (t30 < t29)) (.chk (0 ≤ t30 ∧ t30 < (ln I t28)) (.chk (WF r1) (.know True (hd (qbh t28 t29 (IntKind.wrap .i64 (t30 + (1 : Int))) b index step_0 i hd_ (addS r1 (gd I t28 t30.toNat))))))) (hd (qaw b index step_0 (IntKind.wrap .i64 (i - (1 : Int))) hd_ r1))) := by kernel_rfl
abbrev SetD := Den qaa
theorem WF.rem {s : SetD} (h : WF s) (i : Int) : WF (remS s i) ∧ (remS s i).2.1 = s.2.1 := by
 unfold remS
 cases hm : memS s i with
 | false => exact ⟨h, rfl⟩
 | true =>
  unfold memS at hm
  simp only [Bool.and_eq_true, decide_eq_true_eq] at hm
  exact ⟨⟨h.made, h.lo, h.hi, okW_rem h.ok (by omega)⟩, rfl⟩
theorem WF.add {s : SetD} (h : WF s) (i : Int) : WF (addS s i) ∧ (addS s i).2.1 = s.2.1 := by
 unfold addS
 cases hm : (memS s i || !(decide (0 ≤ i) && decide (i < z s.2.1))) with
 | true => exact ⟨h, rfl⟩
 | false =>
  simp only [Bool.or_eq_false_iff, Bool.not_eq_false', Bool.and_eq_true, decide_eq_true_eq] at hm
  exact ⟨⟨h.made, h.lo, h.hi, okW_add h.ok (by omega)⟩, rfl⟩
def remL (s : SetD) (l : List (Den I)) : SetD := List.foldl (fun s (i : Int) => remS s i) s l
def addL (s : SetD) (l : List (Den I)) : SetD := List.foldl (fun s (i : Int) => addS s i) s l
theorem WF.remL {l : List (Den I)} : ∀ {s : SetD}, WF s → WF (remL s l) ∧ (Burn.M21.remL s l).2.1 = s.2.1 := by
 induction l with
 | nil => exact fun h => ⟨h, rfl⟩
 | cons x l ih => exact fun h => ⟨(ih (h.rem x).1).1, (ih (h.rem x).1).2.trans (h.rem x).2⟩
theorem WF.addL {l : List (Den I)} : ∀ {s : SetD}, WF s → WF (addL s l) ∧ (Burn.M21.addL s l).2.1 = s.2.1 := by
 induction l with
 | nil => exact fun h => ⟨h, rfl⟩
 | cons x l ih => exact fun h => ⟨(ih (h.add x).1).1, (ih (h.add x).1).2.trans (h.add x).2⟩
def stepF (f : Fn) (p : Den qag) (s : SetD) : SetD := addL (remL s (qct f p)) (qdz f p)
theorem WF.step {s : SetD} (h : WF s) (f : Fn) (p : Den qag) : WF (stepF f p s) ∧ (stepF f p s).2.1 = s.2.1 := ⟨(h.remL.1.addL).1, (h.remL.1.addL).2.trans h.remL.2⟩
def backL (f : Fn) (b : Int) : Nat → Int → SetD → SetD
 | 0, _, s => s
 | n + 1, i, s => backL f b n (i - 1) (stepF f (b, i, ()) s)
theorem WF.backL {f : Fn} {b : Int} : ∀ {n : Nat} {i : Int} {s : SetD}, WF s → WF (backL f b n i s) ∧ (Burn.M21.backL f b n i s).2.1 = s.2.1
 | 0, _, _, h => ⟨h, rfl⟩
 | n + 1, i, s, h => ⟨(WF.backL (h.step f (b, i, ())).1).1, (WF.backL (h.step f (b, i, ())).1).2.trans (h.step f (b, i, ())).2⟩
def nIns (f : Fn) (b : Int) : Int := (ln qaf (bIns (blk f b)) : Int)
def backS (a : Den qac) (s : SetD) (b i : Int) : SetD := backL a.1 b (nIns a.1 b - i + 1).toNat (nIns a.1 b) s
def preB (a : Den qac) (s : SetD) (b i : Int) : Prop := qan a.1 ∧ WF s ∧ (0 ≤ b ∧ b < (ln qab (qat a.1) : Int)) ∧ -1 ≤ i ∧ i ≤ nIns a.1 b
theorem back_reads {Q : AV → Heap → Prop} (rs : List (Den I)) (hr : room 8 (ln I rs)) (b index i : Int) (a : Den qac) (hd : Hd) : ∀ k, k ≤ ln I rs → ∀ s : SetD, WF s → Runs E_B7 (qaw b index a (IntKind.wrap .i64 (i - 1)) hd (addL s (rs.drop k))) Q → Runs E_B7 (qbh rs (ln I rs : Nat) k b index a i hd s) Q :=
 qcl (fun s _ hn => .tree E_B7_ok (qcn _ _ _ _ _ _ _ _ _) (by
  rw [drop_ln] at hn
  simp only [sS, sL,  addL, List.foldl_nil] at hn ⊢
  exact hn))
  fun k hk ih s hs hn => .tree E_B7_ok (qcn _ _ _ _ _ _ _ _ _) (by
   rw [qdq hk] at hn
   have ih := ih (addS s (gd I rs k)) (hs.add _).1 hn
   simp only [sS, sL,  hk, wrapS hk (qcf hr)]
   exact ⟨hs, fun _ => ih⟩)
theorem back_writes {Q : AV → Heap → Prop} (rs : List (Den I)) (hr : room 8 (ln I rs)) (b index i : Int) (a : Den qac) (hd : Hd) (hsm : qan a.1) : ∀ k, k ≤ ln I rs → ∀ s : SetD, WF s → Runs E_B7 (qaw b index a (IntKind.wrap .i64 (i - 1)) hd (addL (remL s (rs.drop k)) (qdz a.1 (b, i, ())))) Q → Runs E_B7 (qbi a b i rs (ln I rs : Nat) k b index a i hd s) Q :=
 qcl (fun s hs hn => .tree E_B7_ok (qco _ _ _ _ _ _ _ _ _ _ _ _) (by
  rw [drop_ln] at hn
  simp only [sS, sL,  remL, List.foldl_nil] at hn ⊢
  refine ⟨hsm, fun _ hk => ?_⟩
  exact back_reads _ hk.1 _ _ _ _ _ 0 (Nat.zero_le _) _ hs hn))
  fun k hk ih s hs hn => .tree E_B7_ok (qco _ _ _ _ _ _ _ _ _ _ _ _) (by
   rw [qdq hk] at hn
   have ih := ih (remS s (gd I rs k)) (hs.rem _).1 hn
   simp only [sS, sL,  hk, wrapS hk (qcf hr)]
   exact ⟨hs, fun _ => ih⟩)
theorem back_loop {Q : AV → Heap → Prop} (a : Den qac) (hsm : qan a.1) (b index : Int) (hi0 : -1 ≤ index) (hd : Hd) : ∀ n (i : Int) (s : SetD), (i - index + 1).toNat = n → index - 1 ≤ i → i ≤ 9223372036854775000 → WF s → Q (.tref 1 1 [] 0 []) [(0, ⟨(.pins [.g 1 1 hd]), 0, [], false, none⟩), (1, ⟨(.arr 1 40 qaa ([backL a.1 b n i s] : List (Den qaa))), 1, [], false, none⟩)] → Runs E_B7 (qaw b index a i hd s) Q
 | 0, i, s, hn, h0, h1, hs, hq => .tree E_B7_ok (qdm _ _ _ _ _ _) (by
  refine qah (fun h => absurd (of_decide_eq_true h) (by omega)) fun _ => ?_
  exact hq)
 | n + 1, i, s, hn, h0, h1, hs, hq => .tree E_B7_ok (qdm _ _ _ _ _ _) (by
  refine qah (fun _ => ⟨hsm, fun _ hk => ?_⟩) fun h => absurd (of_decide_eq_false h) (by omega)
  have ih := back_loop a hsm b index hi0 hd n (i - 1) (stepF a.1 (b, i, ()) s) (by omega) (by omega) (by omega) (hs.step _ _).1 hq
  have hw : IntKind.wrap .i64 (i - 1) = i - 1 := wrap64 _ (by omega) (by omega)
  refine back_writes _ hk.1 _ _ _ _ _ hsm 0 (Nat.zero_le _) _ hs ?_
  rw [hw]
  exact ih)
def qer : ConIO := ⟨[.c (.cap qac), .ref 1 40 qaa, .c (.d I), .c (.d I)], fun x => preB x.1 x.2.1 x.2.2.1 x.2.2.2.1, fun x => .tref 1 1 [] 0 [], fun x => [(1, ⟨.arr 1 40 qaa [backS x.1 x.2.1 x.2.2.1 x.2.2.2.1], 1, [], false, none⟩)]⟩
theorem m_liveness_analysis_back (a : Den qac) (live : Den qaa) (b : Int) (index : Int) (hd1 : Hd) (h_a : okD qac a) (h_live : okD qaa live) (h_b : okD I b) (h_index : okD I index) (hp : preB a live b index) : Runs E_B7 (startH E_B7 qal [(.rtp qac a), (.tref 1 1 [] (0 : Nat) []), (vi b), (vi index)] [.g 1 1 hd1] [(1, ⟨(.arr 1 40 qaa ([live] : List (Den qaa))), 1, [], false, none⟩)]) (fun r_ h_ => r_ = .tref 1 1 [] 0 [] ∧ h_ = (0, ⟨(.pins [.g 1 1 hd1]), 0, [], false, none⟩) :: [(1, ⟨.arr 1 40 qaa [backS a live b index], 1, [], false, none⟩)]) := .tree E_B7_ok (liveness_analysis_back_t a live b index hd1) (by
 obtain ⟨hsm, hs, hb, h0, h1⟩ := hp
 refine ⟨hb, fun _ => ?_⟩
 have hbn : b.toNat < ln qab (qat a.1) := by omega
 have hl := qcf ((okB_of h_a.1).2 _ hbn).2.1.1
 have e : nIns a.1 b = (ln qaf (gd qab a.1.2.2.2.2.1 b.toNat).2.1 : Int) := rfl
 rw [← e]
 have hN : nIns a.1 b ≤ 9223372036854775000 := by
  have h2 : ln qaf (gd qab a.1.2.2.2.2.1 b.toNat).2.1 * 80 ≤ roomB := ((okB_of h_a.1).2 _ hbn).2.1.1.1
  rw [e]
  simp only [roomB] at h2
  omega
 exact back_loop a hsm b index h0 hd1 _ _ live rfl (by omega) hN hs ⟨rfl, rfl⟩)
theorem c_liveness_analysis_back : qbn E_B7 qal [1] qer.spec := spec_ofIO fun x l hx hp hl => by
 obtain ⟨hd1, rfl⟩ := pins1 hl
 exact ⟨rfl, m_liveness_analysis_back x.1 x.2.1 x.2.2.1 x.2.2.2.1 hd1 hx.1 hx.2.1 hx.2.2.1 hx.2.2.2.1 hp⟩
def L_B7 : List (FuncId × FSpec) := [] ++ L_B6
theorem L_B7_ok : ∀ x ∈ L_B7, qas (ctx []) x.1 x.2 := L_B6_ok
def LI_B7 : List IoT := [(qal, [1], qer.spec)] ++ LI_B6
theorem LI_B7_ok : ∀ x ∈ LI_B7, qbn (ctx []) x.1 x.2.1 x.2.2 := by
 unfold LI_B7
 simp only [List.cons_append, List.nil_append, List.forall_mem_cons]
 exact ⟨c_liveness_analysis_back, LI_B6_ok⟩
end Burn.M21
namespace Burn.M21
open Go Go.BE Go.Proofs
set_option maxRecDepth 100000
set_option linter.unusedVariables false
set_option linter.unusedSimpArgs false
open Burn.Cfg
open Burn.Bit
noncomputable abbrev E_B8 : Ctx := ctx L_B7 LI_B7
theorem E_B8_ok : EOK E_B8 := ctx_ok L_B7_ok LI_B7_ok
def cuts_B8 : CutL := [([(22, 2000017)], 42, 0, [0, 1, 15, 16, 17], [], [[2, 5]])]
def rets_B8 : FuncId → List (Option Fx)
 | _ => []
def H_B8 : Hints := { cut := cutOf cuts_B8, ret := rets_B8 }
noncomputable def qaq (t1 : Den qac) (t15 : List (Den qae)) (t16 : Int) (t17 : Int) (RR : RgL) (a : Den qac) (live_0 : Den qaa) : Cfg := hcfgx E_B8 f_liveness_analysis_succs_cl1 0 [(0, (.yld 0)), (1, (.rop [(.rtp qac t1)] 0)), (15, (.tv (.sl 32 qae) t15)), (16, (vi t16)), (17, (vi t17))] [(0, ⟨(.obj (.loop RR .ready none)), 0, [], false, none⟩), (1, ⟨(.cells [(.tref 3 3 [] (0 : Nat) [])]), 1, [], false, none⟩), (2, ⟨(.obj .defd), 2, [], false, none⟩), (3, ⟨(.arr 1 40 qaa ([live_0] : List (Den qaa))), 3, [], false, none⟩)] 4 [(cfrr E_B8 qav 0 [(2, (.rop [(.rtp qac a)] 0)), (5, (.ref 1 0))] 0 RR).wx none [(some 2, RR)]]
theorem liveness_analysis_out_t (a : Den qac) (b : Int) : run E_B8 H_B8 qav 3000 (start E_B8 qav [(.rtp qac a), (vi b)]) = (.chk (0 ≤ z ((ln I a.1.2.2.2.1) : Int) ∧ z ((ln I a.1.2.2.2.1) : Int) ≤ 65536) (.know True (.rg fun R1 => (.chk (0 ≤ b ∧ b < (ln qab a.1.2.2.2.2.1)) (hd (qaq a ((gd qab a.1.2.2.2.2.1 b.toNat).2.2.1.2.2.2.1) ((ln qae ((gd qab a.1.2.2.2.2.1 b.toNat).2.2.1.2.2.2.1)) : Int) (0 : Int) R1 a (newS ((ln I a.1.2.2.2.1) : Int)))))))) := by kernel_rfl
theorem qcs (t1 : Den qac) (t15 : List (Den qae)) (t16 : Int) (t17 : Int) (RR : RgL) (a : Den qac) (live_0 : Den qaa) : run E_B8 H_B8 qav 3000 (qaq t1 t15 t16 t17 RR a live_0) = (cond (decide (t17 < t16)) (.chk (0 ≤ t17 ∧ t17 < (ln qae t15)) (cond (decide ((z ((gd qae t15 t17.toNat).1)) ≥ (0 : Int))) (cond (decide ((z ((gd qae t15 t17.toNat).1)) < ((ln qab t1.1.2.2.2.2.1) : Int))) (.chk (RR = RR) (.chk (0 ≤ (z ((gd qae t15 t17.toNat).1)) ∧ (z ((gd qae t15 t17.toNat).1)) < (ln (.ptr qaa) a.2.1)) (.chk (WF live_0 ∧ wfP (gd (.ptr qaa) a.2.1 (((z ((gd qae t15 t17.toNat).1))).toNat)) ∧ z live_0.2.1 = z (oG qaa (gd (.ptr qaa) a.2.1 (((z ((gd qae t15 t17.toNat).1))).toNat))).2.1) (.know True (hd (qaq t1 t15 t16 (IntKind.wrap .i64 (t17 + (1 : Int))) RR a (unionS live_0 (gd (.ptr qaa) a.2.1 (((z ((gd qae t15 t17.toNat).1))).toNat))))))))) (hd (qaq t1 t15 t16 (IntKind.wrap .i64 (t17 + (1 : Int))) RR a live_0))) (hd (qaq t1 t15 t16 (IntKind.wrap .i64 (t17 + (1 : Int))) RR a live_0)))) (rt (.tref 0 0 [] (0 : Nat) []) [(0, ⟨(.arr 1 40 qaa ([live_0] : List (Den qaa))), 0, [], false, none⟩)])) := by kernel_rfl
abbrev AnD := Den qac
abbrev nR (f : Fn) : Nat := ln I f.2.2.2.1
structure WA (a : AnD) : Prop where
 n : nR a.1 ≤ 65536
 len : ln (.ptr qaa) a.2.1 = ln qab (qat a.1)
 ok : ∀ i, i < ln qab (qat a.1) → ∃ y, gd (.ptr qaa) a.2.1 i = some y ∧ WF y ∧ z y.2.1 = (nR a.1 : Int)
def inB (f : Fn) (e : Den qae) : Bool := decide (z e.1 ≥ 0) && decide (z e.1 < (ln qab (qat f) : Int))
def outT (a : AnD) (s : SetD) (e : Den qae) : SetD := cond (inB a.1 e) (unionS s (gd (.ptr qaa) a.2.1 (z e.1).toNat)) s
def outL (a : AnD) (s : SetD) (l : List (Den qae)) : SetD := List.foldl (outT a) s l
def outS (a : AnD) (b : Int) : SetD := outL a (newS (nR a.1 : Int)) (tSuc (blk a.1 b))
theorem wf_new {n : Nat} (h : n ≤ 65536) : WF (newS (n : Int)) := by
 refine ⟨rfl, Int.natCast_nonneg _, ?_, ?_⟩
 ·show (n : Int) ≤ 65536
  omega
 ·have := okW_new n
  show OkW (Int.toNat (n : Int)) (List.replicate ((Int.toNat (n : Int) + 63) / 64) 0)
  rw [Int.toNat_natCast]
  exact this
theorem WF.union {s y : SetD} (h : WF s) (hy : WF y) (hn : z s.2.1 = z y.2.1) : WF (unionS s (some y)) ∧ (unionS s (some y)).2.1 = s.2.1 := by
 refine ⟨⟨h.made, h.lo, h.hi, ?_⟩, rfl⟩
 have h2 := hy.ok
 rw [← hn] at h2
 exact okW_or h.ok h2
theorem WA.out {a : AnD} (h : WA a) {s : SetD} (hs : WF s ∧ z s.2.1 = (nR a.1 : Int)) (e : Den qae) : WF (outT a s e) ∧ z (outT a s e).2.1 = (nR a.1 : Int) := by
 unfold outT
 cases hi : inB a.1 e with
 | false => exact hs
 | true =>
  unfold inB at hi
  simp only [Bool.and_eq_true, decide_eq_true_eq] at hi
  obtain ⟨y, e1, e2, e3⟩ := h.ok (z e.1).toNat (by omega)
  rw [e1]
  have := hs.1.union e2 (hs.2.trans e3.symm)
  exact ⟨this.1, hs.2⟩
theorem WA.outL {a : AnD} (h : WA a) : ∀ {l : List (Den qae)} {s : SetD}, (WF s ∧ z s.2.1 = (nR a.1 : Int)) → WF (outL a s l) ∧ z (Burn.M21.outL a s l).2.1 = (nR a.1 : Int)
 | [], _, hs => hs
 | e :: l, s, hs => h.outL (l := l) (h.out hs e)
theorem WA.outS {a : AnD} (h : WA a) (b : Int) : WF (outS a b) ∧ z (Burn.M21.outS a b).2.1 = (nR a.1 : Int) := h.outL ⟨wf_new h.n, rfl⟩
theorem out_loop (a : AnD) (ha : WA a) (es : List (Den qae)) (hr : room 32 (ln qae es)) (R : RgL) : ∀ k, k ≤ ln qae es → ∀ s : SetD, (WF s ∧ z s.2.1 = (nR a.1 : Int)) → Runs E_B8 (qaq a es (ln qae es : Nat) k R a s) (fun r_ h_ => r_ = (.tref 0 0 [] (0 : Nat) []) ∧ h_ = [(0, ⟨(.arr 1 40 qaa ([outL a s (es.drop k)] : List (Den qaa))), 0, [], false, none⟩)]) :=
 qcl (fun s _ => .tree E_B8_ok (qcs _ _ _ _ _ _ _) (by
  rw [drop_ln]
  simp only [sS, sL,  outL, List.foldl_nil]))
  fun k hk ih s hs => .tree E_B8_ok (qcs _ _ _ _ _ _ _) (by
   rw [qdq hk]
   have ih := ih (outT a s (gd qae es k)) (ha.out hs _)
   have e0 : outL a s (gd qae es k :: es.drop (k + 1)) = outL a (outT a s (gd qae es k)) (es.drop (k + 1)) := rfl
   rw [e0]
   refine qah (fun _ => ⟨⟨Int.natCast_nonneg _, Int.ofNat_lt.2 hk⟩, fun _ => ?_⟩) fun h => absurd (Int.ofNat_lt.2 hk) (of_decide_eq_false h)
   rw [Int.toNat_natCast, wrapS hk (qcf hr)]
   refine qah (fun h1 => qah (fun h2 => ?_) fun h2 => ?_) fun h1 => ?_
   ·have hi : inB a.1 (gd qae es k) = true := by unfold inB; rw [h1, h2]; rfl
    have h1 := of_decide_eq_true h1
    have h2 : z (gd qae es k).1 < (ln qab (qat a.1) : Int) := of_decide_eq_true h2
    have eT : outT a s (gd qae es k) = unionS s (gd (.ptr qaa) a.2.1 (z (gd qae es k).1).toNat) := by unfold outT; rw [hi]; rfl
    rw [eT] at ih ⊢
    obtain ⟨y, e1, e2, e3⟩ := ha.ok (z (gd qae es k).1).toNat (by omega)
    refine ⟨rfl, fun _ => ⟨⟨h1, by rw [ha.len]; exact h2⟩, fun _ => ⟨⟨hs.1, ⟨y, e1, e2⟩, ?_⟩, fun _ _ => ?_⟩⟩⟩
    ·rw [e1]
     exact hs.2.trans e3.symm
    ·exact ih
   ·have hi : inB a.1 (gd qae es k) = false := by unfold inB; rw [h2, Bool.and_false]
    have eT : outT a s (gd qae es k) = s := by unfold outT; rw [hi]; rfl
    rw [eT] at ih ⊢
    exact ih
   ·have hi : inB a.1 (gd qae es k) = false := by unfold inB; rw [h1, Bool.false_and]
    have eT : outT a s (gd qae es k) = s := by unfold outT; rw [hi]; rfl
    rw [eT] at ih ⊢
    exact ih)
def k_liveness_analysis_out : Con := ⟨[.cap qac, .d I], fun x => WA x.1 ∧ 0 ≤ z x.2.1 ∧ z x.2.1 < (ln qab (qat x.1.1) : Int), fun _ => .tref 0 0 [] 0 [], fun x => [(0, ⟨.arr 1 40 qaa [outS x.1 x.2.1], 0, [], false, none⟩)]⟩
theorem m_liveness_analysis_out (a : Den qac) (b : Int) (h_a : okD qac a) (h_b : okD I b) (hp : WA a ∧ 0 ≤ z b ∧ z b < (ln qab (qat a.1) : Int)) : Runs E_B8 (start E_B8 qav [(.rtp qac a), (vi b)]) (fun r_ h_ => r_ = (.tref 0 0 [] (0 : Nat) []) ∧ h_ = [(0, ⟨(.arr 1 40 qaa ([(outS a b)] : List (Den qaa))), 0, [], false, none⟩)]) := .tree E_B8_ok (liveness_analysis_out_t a b) (by
 obtain ⟨ha, h0, h1⟩ := hp
 have hn := ha.n
 refine ⟨⟨Int.natCast_nonneg _, by show (ln I a.1.2.2.2.1 : Int) ≤ 65536; have : ln I a.1.2.2.2.1 ≤ 65536 := hn; omega⟩, fun _ _ R => ⟨⟨h0, h1⟩, fun _ => ?_⟩⟩
 have h0' : 0 ≤ b := h0
 have h1' : b < (ln qab (qat a.1) : Int) := h1
 have hbn : b.toNat < ln qab (qat a.1) := by omega
 exact out_loop a ha _ (okB_suc (okB_of h_a.1) hbn).1 R 0 (Nat.zero_le _) _ ⟨wf_new hn, rfl⟩)
theorem c_liveness_analysis_out : qas E_B8 qav k_liveness_analysis_out.spec := qbg fun x hx hp => ⟨rfl, m_liveness_analysis_out x.1 x.2.1 hx.1 hx.2.1 hp⟩
def L_B8 : List (FuncId × FSpec) := [(qav, k_liveness_analysis_out.spec)] ++ L_B7
theorem L_B8_ok : ∀ x ∈ L_B8, qas (ctx []) x.1 x.2 := by
 unfold L_B8
 simp only [List.cons_append, List.nil_append, List.forall_mem_cons]
 exact ⟨c_liveness_analysis_out, L_B7_ok⟩
def LI_B8 : List IoT := [] ++ LI_B7
theorem LI_B8_ok : ∀ x ∈ LI_B8, qbn (ctx []) x.1 x.2.1 x.2.2 := by
 unfold LI_B8
 simp only [List.cons_append, List.nil_append, List.forall_mem_cons]
 exact LI_B7_ok
end Burn.M21
namespace Burn.M21
open Go Go.BE Go.Proofs
set_option maxRecDepth 100000
set_option linter.unusedVariables false
set_option linter.unusedSimpArgs false
open Burn.Cfg
open Burn.Bit
noncomputable abbrev E_B9 : Ctx := ctx L_B8 LI_B8
theorem E_B9_ok : EOK E_B9 := ctx_ok L_B8_ok LI_B8_ok
def cuts_B9 : CutL := [([], 19, 0, [1, 3, 11, 12], [(.c 3 5, .own 8 (.ptr qaa) 2)], []),
 ([], 19, 2, [1, 3, 4], [], []),
 ([], 19, 4, [1, 3, 4, 5], [], []),
 ([(27, 322), (19, 2381)], 36, 0, [0, 1, 2, 7, 33, 34], [], [[], [1, 3, 4, 5]])]
def rets_B9 : FuncId → List (Option Fx)
 | 19 => [some (.dat (.ptr qac))]
 | _ => []
def H_B9 : Hints := { cut := cutOf cuts_B9, ret := rets_B9 }
noncomputable def qcu (f : Den qad) (t11 : Int) (t12 : Int) (a_0 : ByteArray) (a_1 : List (Den I)) (a_2 : Int) (a_3 : List (Den I)) (a_4 : List (Den qab)) (a_5 : List (Den (.ptr qaa))) : Cfg := hcfg E_B9 qam 0 [(1, (.rtp qad f)), (3, (.ref 0 0)), (11, (vi t11)), (12, (vi t12))] [(0, ⟨(.cells [(vs a_0), (.tv (.sl 8 I) a_1), (vi a_2), (.tv (.sl 8 I) a_3), (.tv (.sl 136 qab) a_4), (.osl 1 1 [] none)]), 0, [], false, none⟩), (1, ⟨(.arr 2 8 (.ptr qaa) a_5), 1, [], false, none⟩)] 2
noncomputable def qbr (f : Den qad) (changed : Bool) (a_0 : ByteArray) (a_1 : List (Den I)) (a_2 : Int) (a_3 : List (Den I)) (a_4 : List (Den qab)) (a_5 : List (Den (.ptr qaa))) : Cfg := hcfg E_B9 qam 2 [(1, (.rtp qad f)), (3, (.ref 0 0)), (4, (vb changed))] [(0, ⟨(.cells [(vs a_0), (.tv (.sl 8 I) a_1), (vi a_2), (.tv (.sl 8 I) a_3), (.tv (.sl 136 qab) a_4), (.osl 1 1 [] none)]), 0, [], false, none⟩), (1, ⟨(.arr 2 8 (.ptr qaa) a_5), 1, [], false, none⟩)] 2
noncomputable def qau (f : Den qad) (changed : Bool) (b : Int) (a_0 : ByteArray) (a_1 : List (Den I)) (a_2 : Int) (a_3 : List (Den I)) (a_4 : List (Den qab)) (a_5 : List (Den (.ptr qaa))) : Cfg := hcfg E_B9 qam 4 [(1, (.rtp qad f)), (3, (.ref 0 0)), (4, (vb changed)), (5, (vi b))] [(0, ⟨(.cells [(vs a_0), (.tv (.sl 8 I) a_1), (vi a_2), (.tv (.sl 8 I) a_3), (.tv (.sl 136 qab) a_4), (.osl 1 1 [] none)]), 0, [], false, none⟩), (1, ⟨(.arr 2 8 (.ptr qaa) a_5), 1, [], false, none⟩)] 2
noncomputable def qaz (s_k : Nat) (changed : Bool) (t33 : Int) (t34 : Int) (f : Den qad) (changed1 : Bool) (b : Int) (r0 : List (Den (.ptr qaa))) (o : Den qaa) (a_0 : ByteArray) (a_1 : List (Den I)) (a_2 : Int) (a_3 : List (Den I)) (a_4 : List (Den qab)) : Cfg := hcfgx E_B9 f_bitset_Set_combine 0 [(0, (.optr 0 0 [(s_k, [])])), (1, (.tref 1 1 [] (0 : Nat) [])), (2, (.fn qax [])), (7, (vb changed)), (33, (vi t33)), (34, (vi t34))] [(0, ⟨(.arr 2 8 (.ptr qaa) r0), 0, [], false, none⟩), (1, ⟨(.arr 1 40 qaa ([o] : List (Den qaa))), 1, [], false, none⟩), (2, ⟨(.cells [(vs a_0), (.tv (.sl 8 I) a_1), (vi a_2), (.tv (.sl 8 I) a_3), (.tv (.sl 136 qab) a_4), (.osl 0 0 [] none)]), 2, [], false, none⟩)] 3 [cfr E_B9 qbd 0 [], cfr E_B9 qam 7 [(1, (.rtp qad f)), (3, (.ref 2 0)), (4, (vb changed1)), (5, (vi b))]]
theorem liveness_analyze_t (f : Den qad) : run E_B9 H_B9 qam 3000 (start E_B9 qam [(.tv qad f)]) = (hd (qcu f ((ln qab f.2.2.2.2.1) : Int) (0 : Int) (tOf f.1) f.2.1 (z f.2.2.1) f.2.2.2.1 f.2.2.2.2.1 ([] : List (Den (.ptr qaa))))) := by kernel_rfl
theorem liveness_analyze_L0_t (f : Den qad) (t11 : Int) (t12 : Int) (a_0 : ByteArray) (a_1 : List (Den I)) (a_2 : Int) (a_3 : List (Den I)) (a_4 : List (Den qab)) (a_5 : List (Den (.ptr qaa))) : run E_B9 H_B9 qam 3000 (qcu f t11 t12 a_0 a_1 a_2 a_3 a_4 a_5) = (cond (decide (t12 < t11)) (.chk (0 ≤ z ((ln I f.2.2.2.1) : Int) ∧ z ((ln I f.2.2.2.1) : Int) ≤ 65536) (.chk (((ln (.ptr qaa) a_5) + (1 : Nat)) * 8 ≤ roomB) (.know True (hd (qcu f t11 (IntKind.wrap .i64 (t12 + (1 : Int))) a_0 a_1 a_2 a_3 a_4 (ap (.ptr qaa) a_5 ([(some (newS ((ln I f.2.2.2.1) : Int)))] : List (Den (.ptr qaa))))))))) (hd (qbr f true a_0 a_1 a_2 a_3 a_4 a_5))) := by kernel_rfl
theorem liveness_analyze_L2_t (f : Den qad) (changed : Bool) (a_0 : ByteArray) (a_1 : List (Den I)) (a_2 : Int) (a_3 : List (Den I)) (a_4 : List (Den qab)) (a_5 : List (Den (.ptr qaa))) : run E_B9 H_B9 qam 3000 (qbr f changed a_0 a_1 a_2 a_3 a_4 a_5) = (cond changed (hd (qau f false (IntKind.wrap .i64 (((ln qab f.2.2.2.2.1) : Int) - (1 : Int))) a_0 a_1 a_2 a_3 a_4 a_5)) (rt (.tv (.ptr qac) (some ((a_0, a_1, a_2, a_3, a_4, ()), a_5, ()))) [])) := by kernel_rfl
theorem liveness_analyze_L4_t (f : Den qad) (changed : Bool) (b : Int) (a_0 : ByteArray) (a_1 : List (Den I)) (a_2 : Int) (a_3 : List (Den I)) (a_4 : List (Den qab)) (a_5 : List (Den (.ptr qaa))) : run E_B9 H_B9 qam 3000 (qau f changed b a_0 a_1 a_2 a_3 a_4 a_5) = (cond (decide (b ≥ (0 : Int))) (.chk (0 ≤ b ∧ b < (ln (.ptr qaa) a_5)) (.chk (b.toNat < (ln (.ptr qaa) a_5)) (.chk (WA ((a_0, a_1, a_2, a_3, a_4, ()), a_5, ()) ∧ 0 ≤ z b ∧ z b < (ln qab (qat ((a_0, a_1, a_2, a_3, a_4, ()), a_5, ()).1) : Int)) (.chk (preB ((a_0, a_1, a_2, a_3, a_4, ()), a_5, ()) (outS ((a_0, a_1, a_2, a_3, a_4, ()), a_5, ()) b) b (-1 : Int)) (.know True (.know True (.chk (b.toNat < (ln (.ptr qaa) a_5)) (.chk (True) (cond (!(qde (gd (.ptr qaa) a_5 b.toNat))) (.know True (hd (qau f changed (IntKind.wrap .i64 (b - (1 : Int))) a_0 a_1 a_2 a_3 a_4 a_5))) (.chk (True) (cond (!(qde (some (backS ((a_0, a_1, a_2, a_3, a_4, ()), a_5, ()) (outS ((a_0, a_1, a_2, a_3, a_4, ()), a_5, ()) b) b (-1 : Int))))) (.know True (.know True (hd (qau f changed (IntKind.wrap .i64 (b - (1 : Int))) a_0 a_1 a_2 a_3 a_4 a_5)))) (.chk (b.toNat < (ln (.ptr qaa) a_5)) (.chk ((0 : Nat) < (ln qaa (oL qaa (gd (.ptr qaa) a_5 b.toNat)))) (.chk (b.toNat < (ln (.ptr qaa) a_5)) (.chk (b.toNat < (ln (.ptr qaa) a_5)) (.chk ((0 : Nat) < (ln qaa (oL qaa (gd (.ptr qaa) a_5 b.toNat)))) (.chk ((0 : Nat) < (1 : Nat)) (.know True (.know True (cond ((z ((gd qaa (oL qaa (gd (.ptr qaa) a_5 b.toNat)) (0 : Nat)).2.1)) != (z ((backS ((a_0, a_1, a_2, a_3, a_4, ()), a_5, ()) (outS ((a_0, a_1, a_2, a_3, a_4, ()), a_5, ()) b) b (-1 : Int)).2.1))) (hd (qau f changed (IntKind.wrap .i64 (b - (1 : Int))) a_0 a_1 a_2 a_3 a_4 a_5)) (.chk (b.toNat < (ln (.ptr qaa) a_5)) (.chk ((0 : Nat) < (ln qaa (oL qaa (gd (.ptr qaa) a_5 b.toNat)))) (.chk (b.toNat < (ln (.ptr qaa) a_5)) (.chk (b.toNat < (ln (.ptr qaa) a_5)) (.chk ((0 : Nat) < (ln qaa (oL qaa (gd (.ptr qaa) a_5 b.toNat)))) (.chk (b.toNat < (ln (.ptr qaa) a_5)) (.chk ((0 : Nat) < (ln qaa (oL qaa (gd (.ptr qaa) a_5 b.toNat)))) (hd (qaz b.toNat false ((ln (.int .u64) ((gd qaa (oL qaa (gd (.ptr qaa) a_5 b.toNat)) (0 : Nat)).2.2.1)) : Int) (0 : Int) f changed b a_5 (backS ((a_0, a_1, a_2, a_3, a_4, ()), a_5, ()) (outS ((a_0, a_1, a_2, a_3, a_4, ()), a_5, ()) b) b (-1 : Int)) a_0 a_1 a_2 a_3 a_4))))))))))))))))))))))))))))) (hd (qbr f changed a_0 a_1 a_2 a_3 a_4 a_5))) := by kernel_rfl
theorem qcx (s_k : Nat) (changed : Bool) (t33 : Int) (t34 : Int) (f : Den qad) (changed1 : Bool) (b : Int) (r0 : List (Den (.ptr qaa))) (o : Den qaa) (a_0 : ByteArray) (a_1 : List (Den I)) (a_2 : Int) (a_3 : List (Den I)) (a_4 : List (Den qab)) : run E_B9 H_B9 qam 3000 (qaz s_k changed t33 t34 f changed1 b r0 o a_0 a_1 a_2 a_3 a_4) = (cond (decide (t34 < t33)) (.chk (s_k < (ln (.ptr qaa) r0)) (.chk ((0 : Nat) < (ln qaa (oL qaa (gd (.ptr qaa) r0 s_k)))) (.chk (s_k < (ln (.ptr qaa) r0)) (.chk (s_k < (ln (.ptr qaa) r0)) (.chk ((0 : Nat) < (ln qaa (oL qaa (gd (.ptr qaa) r0 s_k)))) (.chk (s_k < (ln (.ptr qaa) r0)) (.chk ((0 : Nat) < (ln qaa (oL qaa (gd (.ptr qaa) r0 s_k)))) (.chk (0 ≤ t34 ∧ t34 < (ln (.int .u64) ((gd qaa (oL qaa (gd (.ptr qaa) r0 s_k)) (0 : Nat)).2.2.1))) (.chk (s_k < (ln (.ptr qaa) r0)) (.chk ((0 : Nat) < (ln qaa (oL qaa (gd (.ptr qaa) r0 s_k)))) (.chk (t34.toNat < (ln (.int .u64) ((gd qaa (oL qaa (gd (.ptr qaa) r0 s_k)) (0 : Nat)).2.2.1))) (.chk ((0 : Nat) < (1 : Nat)) (.chk ((0 : Nat) < (1 : Nat)) (.chk (0 ≤ t34 ∧ t34 < (ln (.int .u64) o.2.2.1)) (.chk ((0 : Nat) < (1 : Nat)) (.chk (t34.toNat < (ln (.int .u64) o.2.2.1)) (.chk (True) (.know (okD (.int .u64) (orW (gd (.int .u64) ((gd qaa (oL qaa (gd (.ptr qaa) r0 s_k)) (0 : Nat)).2.2.1) t34.toNat) (gd (.int .u64) o.2.2.1 t34.toNat))) (cond changed (.chk (s_k < (ln (.ptr qaa) r0)) (.chk ((0 : Nat) < (ln qaa (oL qaa (gd (.ptr qaa) r0 s_k)))) (.chk (s_k < (ln (.ptr qaa) r0)) (.chk (s_k < (ln (.ptr qaa) r0)) (.chk ((0 : Nat) < (ln qaa (oL qaa (gd (.ptr qaa) r0 s_k)))) (.chk (s_k < (ln (.ptr qaa) r0)) (.chk ((0 : Nat) < (ln qaa (oL qaa (gd (.ptr qaa) r0 s_k)))) (.chk (0 ≤ t34 ∧ t34 < (ln (.int .u64) ((gd qaa (oL qaa (gd (.ptr qaa) r0 s_k)) (0 : Nat)).2.2.1))) (.chk (s_k < (ln (.ptr qaa) r0)) (.chk ((0 : Nat) < (ln qaa (oL qaa (gd (.ptr qaa) r0 s_k)))) (.chk (t34.toNat < (ln (.int .u64) ((gd qaa (oL qaa (gd (.ptr qaa) r0 s_k)) (0 : Nat)).2.2.1))) (hd (qaz s_k true t33 (IntKind.wrap .i64 (t34 + (1 : Int))) f changed1 b (st (.ptr qaa) r0 s_k (oH qaa (st qaa (oL qaa (gd (.ptr qaa) r0 s_k)) (0 : Nat) ((gd qaa (oL qaa (gd (.ptr qaa) r0 s_k)) (0 : Nat)).1, (gd qaa (oL qaa (gd (.ptr qaa) r0 s_k)) (0 : Nat)).2.1, (st (.int .u64) ((gd qaa (oL qaa (gd (.ptr qaa) r0 s_k)) (0 : Nat)).2.2.1) t34.toNat (orW (gd (.int .u64) ((gd qaa (oL qaa (gd (.ptr qaa) r0 s_k)) (0 : Nat)).2.2.1) t34.toNat) (gd (.int .u64) o.2.2.1 t34.toNat))), (gd qaa (oL qaa (gd (.ptr qaa) r0 s_k)) (0 : Nat)).2.2.2)))) o a_0 a_1 a_2 a_3 a_4))))))))))))) (.chk (s_k < (ln (.ptr qaa) r0)) (.chk ((0 : Nat) < (ln qaa (oL qaa (gd (.ptr qaa) r0 s_k)))) (.chk (s_k < (ln (.ptr qaa) r0)) (.chk (s_k < (ln (.ptr qaa) r0)) (.chk ((0 : Nat) < (ln qaa (oL qaa (gd (.ptr qaa) r0 s_k)))) (.chk (s_k < (ln (.ptr qaa) r0)) (.chk ((0 : Nat) < (ln qaa (oL qaa (gd (.ptr qaa) r0 s_k)))) (.chk (0 ≤ t34 ∧ t34 < (ln (.int .u64) ((gd qaa (oL qaa (gd (.ptr qaa) r0 s_k)) (0 : Nat)).2.2.1))) (.chk (s_k < (ln (.ptr qaa) r0)) (.chk ((0 : Nat) < (ln qaa (oL qaa (gd (.ptr qaa) r0 s_k)))) (.chk (t34.toNat < (ln (.int .u64) ((gd qaa (oL qaa (gd (.ptr qaa) r0 s_k)) (0 : Nat)).2.2.1))) (.chk (s_k < (ln (.ptr qaa) r0)) (.chk ((0 : Nat) < (ln qaa (oL qaa (gd (.ptr qaa) r0 s_k)))) (.chk (s_k < (ln (.ptr qaa) r0)) (.chk (s_k < (ln (.ptr qaa) r0)) (.chk ((0 : Nat) < (ln qaa (oL qaa (gd (.ptr qaa) r0 s_k)))) (.chk (s_k < (ln (.ptr qaa) r0)) (.chk ((0 : Nat) < (ln qaa (oL qaa (gd (.ptr qaa) r0 s_k)))) (.chk (0 ≤ t34 ∧ t34 < (ln (.int .u64) ((gd qaa (oL qaa (gd (.ptr qaa) r0 s_k)) (0 : Nat)).2.2.1))) (.chk (s_k < (ln (.ptr qaa) r0)) (.chk ((0 : Nat) < (ln qaa (oL qaa (gd (.ptr qaa) r0 s_k)))) (.chk (t34.toNat < (ln (.int .u64) ((gd qaa (oL qaa (gd (.ptr qaa) r0 s_k)) (0 : Nat)).2.2.1))) (hd (qaz s_k ((orW (gd (.int .u64) ((gd qaa (oL qaa (gd (.ptr qaa) r0 s_k)) (0 : Nat)).2.2.1) t34.toNat) (gd (.int .u64) o.2.2.1 t34.toNat)) != (iOf .u64 (gd (.int .u64) ((gd qaa (oL qaa (gd (.ptr qaa) r0 s_k)) (0 : Nat)).2.2.1) t34.toNat))) t33 (IntKind.wrap .i64 (t34 + (1 : Int))) f changed1 b (st (.ptr qaa) r0 s_k (oH qaa (st qaa (oL qaa (gd (.ptr qaa) r0 s_k)) (0 : Nat) ((gd qaa (oL qaa (gd (.ptr qaa) r0 s_k)) (0 : Nat)).1, (gd qaa (oL qaa (gd (.ptr qaa) r0 s_k)) (0 : Nat)).2.1, (st (.int .u64) ((gd qaa (oL qaa (gd (.ptr qaa) r0 s_k)) (0 : Nat)).2.2.1) t34.toNat (orW (gd (.int .u64) ((gd qaa (oL qaa (gd (.ptr qaa) r0 s_k)) (0 : Nat)).2.2.1) t34.toNat) (gd (.int .u64) o.2.2.1 t34.toNat))), (gd qaa (oL qaa (gd (.ptr qaa) r0 s_k)) (0 : Nat)).2.2.2)))) o a_0 a_1 a_2 a_3 a_4))))))))))))))))))))))))))))))))))))))))))) (cond changed (hd (qau f true (IntKind.wrap .i64 (b - (1 : Int))) a_0 a_1 a_2 a_3 a_4 r0)) (hd (qau f changed1 (IntKind.wrap .i64 (b - (1 : Int))) a_0 a_1 a_2 a_3 a_4 r0)))) := by kernel_rfl
abbrev Ins := List (Den (.ptr qaa))
def aOf (f : Fn) (ins : Ins) : AnD := (f, ins, ())
def sI (ins : Ins) (b : Nat) : SetD := oG qaa (gd (.ptr qaa) ins b)
def tB (f : Fn) (ins : Ins) (b : Nat) : SetD := backS (aOf f ins) (outS (aOf f ins) b) b (-1)
def updB (f : Fn) (ins : Ins) (b : Nat) : Ins := st (.ptr qaa) ins b (some (unionS (sI ins b) (some (tB f ins b))))
def chB (f : Fn) (ins : Ins) (b : Nat) : Bool := unionR (sI ins b) (some (tB f ins b))
def passF (f : Fn) : Nat → Ins → Bool → Ins × Bool
 | 0, ins, c => (ins, c)
 | n + 1, ins, c => passF f n (updB f ins n) (cond (chB f ins n) true c)
def nB (f : Fn) : Nat := ln qab (qat f)
def fixA (f : Fn) : Nat → Ins → Ins
 | 0, ins => ins
 | k + 1, ins => cond (passF f (nB f) ins false).2 (fixA f k (passF f (nB f) ins false).1) (passF f (nB f) ins false).1
def ins0 (f : Fn) : Ins := List.replicate (nB f) (some (newS (nR f : Int)))
def anF (f : Fn) : Ins := fixA f (nB f * nR f + 1) (ins0 f)
def qbm (f : Fn) : Den (.ptr qac) := some (aOf f (anF f))
theorem WF.nat {s : SetD} (h : WF s) (r : Nat) : memS s (r : Int) = memW s.2.2.1 r := by
 unfold memS
 rw [decide_eq_true (Int.natCast_nonneg r), Bool.true_and, Int.toNat_natCast]
 by_cases hr : (r : Int) < z s.2.1
 ·rw [decide_eq_true hr, Bool.true_and]
 ·rw [decide_eq_false hr, Bool.false_and]
  exact (h.ok.top r (by omega)).symm
theorem mem_union {s y : SetD} (h : WF s) (hy : WF y) (hn : z s.2.1 = z y.2.1) (r : Nat) : memS (unionS s (some y)) (r : Int) = (memS s r || memS y r) := by
 have h2 := hy.ok
 rw [← hn] at h2
 rw [h.nat, hy.nat, (h.union hy hn).1.nat]
 exact memW_or h.ok h2 r
theorem union_f {s y : SetD} (h : unionR s (some y) = false) : unionS s (some y) = s := by
 have h1 := of_decide_eq_false h
 have h2 : orWs s.2.2.1 (oG qaa (some y)).2.2.1 = s.2.2.1 := by simpa using h1
 unfold unionS
 rw [h2]
theorem union_t {s y : SetD} (h : WF s) (hy : WF y) (hn : z s.2.1 = z y.2.1) (hu : unionR s (some y) = true) : ∃ r : Nat, (r : Int) < z s.2.1 ∧ memS s r = false ∧ memS y r = true := by
 apply Classical.byContradiction
 intro hc
 have h2 := hy.ok
 rw [← hn] at h2
 refine absurd (memW_ext (okW_or h.ok h2) h.ok fun r hr => ?_) (of_decide_eq_true hu)
 rw [memW_or h.ok h2, ← h.nat, ← hy.nat]
 have hr' : (r : Int) < z s.2.1 := by omega
 cases h3 : memS s (r : Int) with
 | true => rfl
 | false =>
  cases h4 : memS y (r : Int) with
  | false => rfl
  | true => exact absurd ⟨r, hr', h3, h4⟩ hc
theorem wa_back {a : AnD} (h : WA a) (b i : Int) : WF (backS a (outS a b) b i) ∧ z (backS a (outS a b) b i).2.1 = (nR a.1 : Int) := by
 obtain ⟨h1, h2⟩ := h.outS b
 have h3 := WF.backL (f := a.1) (b := b) (n := (nIns a.1 b - i + 1).toNat) (i := nIns a.1 b) h1
 exact ⟨h3.1, (congrArg z h3.2).trans h2⟩
theorem tB_ok {f : Fn} {ins : Ins} (h : WA (aOf f ins)) (b : Nat) : WF (tB f ins b) ∧ z (tB f ins b).2.1 = (nR f : Int) := wa_back h b (-1)
theorem WA.set {f : Fn} {ins : Ins} (h : WA (aOf f ins)) {b : Nat} (hb : b < nB f) : gd (.ptr qaa) ins b = some (sI ins b) ∧ WF (sI ins b) ∧ z (sI ins b).2.1 = (nR f : Int) := by
 obtain ⟨y, h1, h2⟩ := h.ok b hb
 have h1 : gd (.ptr qaa) ins b = some y := h1
 unfold sI
 rw [h1]
 exact ⟨rfl, h2⟩
theorem WA.upd {f : Fn} {ins : Ins} (h : WA (aOf f ins)) {b : Nat} (hb : b < nB f) : WA (aOf f (updB f ins b)) := by
 refine ⟨h.n, ln_st.trans h.len, fun i hi => ?_⟩
 by_cases e : i = b
 ·subst e
  obtain ⟨_, h1, h2⟩ := h.set hb
  obtain ⟨h3, h4⟩ := tB_ok h i
  obtain ⟨h5, h6⟩ := h1.union h3 (h2.trans h4.symm)
  refine ⟨_, gd_st (by rw [show ln (.ptr qaa) ins = nB f from h.len]; exact hb), h5, ?_⟩
  exact (congrArg z h6).trans h2
 ·obtain ⟨y, h1, h2⟩ := h.ok i hi
  refine ⟨y, Eq.trans ?_ h1, h2⟩
  show (List.set ins b _).getD i _ = ins.getD i _
  rw [List.getD_eq_getElem?_getD, List.getD_eq_getElem?_getD, List.getElem?_set, if_neg (fun h => e h.symm)]
theorem upd_self {f : Fn} {ins : Ins} (h : WA (aOf f ins)) {b : Nat} (hb : b < nB f) : sI (updB f ins b) b = unionS (sI ins b) (some (tB f ins b)) := by
 unfold sI updB
 rw [gd_st (by rw [show ln (.ptr qaa) ins = nB f from h.len]; exact hb)]
 rfl
theorem upd_other {f : Fn} {ins : Ins} {b i : Nat} (e : i ≠ b) : sI (updB f ins b) i = sI ins i := by
 unfold sI updB
 refine congrArg _ ?_
 show (List.set ins b _).getD i _ = ins.getD i _
 rw [List.getD_eq_getElem?_getD, List.getD_eq_getElem?_getD, List.getElem?_set, if_neg (fun h => e h.symm)]
def mI (ins : Ins) (b r : Nat) : Bool := memS (sI ins b) (r : Int)
theorem upd_mem {f : Fn} {ins : Ins} (h : WA (aOf f ins)) {b : Nat} (hb : b < nB f) (i r : Nat) : mI (updB f ins b) i r = (mI ins i r || (decide (i = b) && memS (tB f ins b) (r : Int))) := by
 unfold mI
 by_cases e : i = b
 ·subst e
  obtain ⟨_, h1, h2⟩ := h.set hb
  obtain ⟨h3, h4⟩ := tB_ok h i
  rw [upd_self h hb, mem_union h1 h3 (h2.trans h4.symm), decide_eq_true rfl, Bool.true_and]
 ·rw [upd_other e, decide_eq_false e, Bool.false_and, Bool.or_false]
theorem upd_le {f : Fn} {ins : Ins} (h : WA (aOf f ins)) {b : Nat} (hb : b < nB f) {i r : Nat} (hm : mI ins i r = true) : mI (updB f ins b) i r = true := by
 rw [upd_mem h hb, hm, Bool.true_or]
theorem WA.pass {f : Fn} : ∀ {n : Nat} {ins : Ins} {c : Bool}, n ≤ nB f → WA (aOf f ins) → WA (aOf f (passF f n ins c).1)
 | 0, _, _, _, h => h
 | n + 1, _, _, hn, h => WA.pass (n := n) (by omega) (h.upd (by omega))
theorem pass_le {f : Fn} {i r : Nat} : ∀ {n : Nat} {ins : Ins} {c : Bool}, n ≤ nB f → WA (aOf f ins) → mI ins i r = true → mI (passF f n ins c).1 i r = true
 | 0, _, _, _, _, hm => hm
 | n + 1, _, _, hn, h, hm => pass_le (n := n) (by omega) (h.upd (by omega)) (upd_le h (by omega) hm)
theorem pass_ch {f : Fn} : ∀ {n : Nat} {ins : Ins} {c : Bool}, n ≤ nB f → WA (aOf f ins) → (passF f n ins c).2 = true → c = true ∨ ∃ b, b < nB f ∧ ∃ r, r < nR f ∧ mI ins b r = false ∧ mI (passF f n ins c).1 b r = true
 | 0, _, _, _, _, hc => .inl hc
 | n + 1, ins, c, hn, h, hc => by
  rcases pass_ch (n := n) (by omega) (h.upd (show n < nB f by omega)) hc with h1 | ⟨b, hb, r, hr, h1, h2⟩
  ·cases hch : chB f ins n with
   | false => rw [hch] at h1; exact .inl h1
   | true =>
    obtain ⟨_, w1, w2⟩ := h.set (show n < nB f by omega)
    obtain ⟨w3, w4⟩ := tB_ok h n
    obtain ⟨r, hr, m1, m2⟩ := union_t (y := tB f ins n) w1 w3 (w2.trans w4.symm) hch
    refine .inr ⟨n, by omega, r, ?_, m1, pass_le (n := n) (by omega) (h.upd (by omega)) ?_⟩
    ·rw [w2] at hr
     exact Int.ofNat_lt.1 hr
    ·rw [upd_mem h (by omega), decide_eq_true rfl, Bool.true_and, show memS (tB f ins n) (r : Int) = true from m2, Bool.or_true]
  ·refine .inr ⟨b, hb, r, hr, ?_, h2⟩
   cases h3 : mI ins b r with
   | false => rfl
   | true => exact absurd (h1.symm.trans (upd_le h (by omega) h3)) (by decide)
theorem upd_f {f : Fn} {ins : Ins} (h : WA (aOf f ins)) {b : Nat} (hb : b < nB f) (hc : chB f ins b = false) : updB f ins b = ins := by
 unfold updB
 rw [union_f hc, ← (h.set hb).1]
 exact st_gd
theorem pass_tr {f : Fn} : ∀ (n : Nat) (ins : Ins), (passF f n ins true).2 = true
 | 0, _ => rfl
 | n + 1, ins => by
  show (passF f n (updB f ins n) (cond (chB f ins n) true true)).2 = true
  rw [show cond (chB f ins n) true true = true by cases chB f ins n <;> rfl]
  exact pass_tr n _
theorem pass_fix {f : Fn} : ∀ {n : Nat} {ins : Ins}, n ≤ nB f → WA (aOf f ins) → (passF f n ins false).2 = false → (passF f n ins false).1 = ins ∧ ∀ b, b < n → chB f ins b = false
 | 0, _, _, _, _ => ⟨rfl, fun b hb => absurd hb (by omega)⟩
 | n + 1, ins, hn, h, hc => by
  cases hch : chB f ins n with
  | true =>
   have e : (passF f (n + 1) ins false).2 = (passF f n (updB f ins n) true).2 := by
    show (passF f n (updB f ins n) (cond (chB f ins n) true false)).2 = _
    rw [hch]; rfl
   rw [e, pass_tr] at hc
   exact absurd hc (by decide)
  | false =>
   have e : passF f (n + 1) ins false = passF f n ins false := by
    show passF f n (updB f ins n) (cond (chB f ins n) true false) = _
    rw [hch, upd_f h (by omega) hch]; rfl
   rw [e] at hc ⊢
   obtain ⟨h1, h2⟩ := pass_fix (n := n) (by omega) h hc
   refine ⟨h1, fun b hb => ?_⟩
   by_cases eb : b = n
   ·subst eb; exact hch
   ·exact h2 b (by omega)
theorem wa0 {f : Fn} (h : nR f ≤ 65536) : WA (aOf f (ins0 f)) := by
 refine ⟨h, List.length_replicate, fun i hi => ⟨newS (nR f : Int), ?_, wf_new h, rfl⟩⟩
 show (List.replicate (nB f) (some (newS (nR f : Int)))).getD i _ = _
 rw [List.getD_eq_getElem?_getD, List.getElem?_replicate, if_pos (show i < nB f from hi)]
 rfl
def sumN (g : Nat → Nat) : Nat → Nat
 | 0 => 0
 | n + 1 => sumN g n + g n
theorem sumN_le {g h : Nat → Nat} : ∀ {n : Nat}, (∀ i, i < n → g i ≤ h i) → sumN g n ≤ sumN h n
 | 0, _ => Nat.le_refl _
 | n + 1, hl => Nat.add_le_add (sumN_le fun i hi => hl i (by omega)) (hl n (by omega))
theorem sumN_lt {g h : Nat → Nat} : ∀ {n : Nat}, (∀ i, i < n → g i ≤ h i) → ∀ {k}, k < n → g k < h k → sumN g n < sumN h n
 | n + 1, hl, k, hk, hs => by
  by_cases e : k = n
  ·subst e
   exact Nat.add_lt_add_of_le_of_lt (sumN_le fun i hi => hl i (by omega)) hs
  ·exact Nat.add_lt_add_of_lt_of_le (sumN_lt (fun i hi => hl i (by omega)) (k := k) (by omega) hs) (hl n (by omega))
theorem sumN_top {g : Nat → Nat} {c : Nat} : ∀ {n : Nat}, (∀ i, i < n → g i ≤ c) → sumN g n ≤ n * c
 | 0, _ => Nat.zero_le _
 | n + 1, hl => by
  have h1 := sumN_top (n := n) fun i hi => hl i (by omega)
  have h2 := hl n (by omega)
  rw [Nat.succ_mul]
  show sumN g n + g n ≤ _
  omega
def cnt2 (nb nr : Nat) (m : Nat → Nat → Bool) : Nat := sumN (fun b => sumN (fun r => (m b r).toNat) nr) nb
theorem toNat_le {a b : Bool} (h : a = true → b = true) : a.toNat ≤ b.toNat := by
 cases a with
 | false => exact Nat.zero_le _
 | true => rw [h rfl]; exact Nat.le_refl _
theorem cnt2_top (nb nr : Nat) (m : Nat → Nat → Bool) : cnt2 nb nr m ≤ nb * nr := sumN_top fun b _ => by
 have h := sumN_top (g := fun r => (m b r).toNat) (c := 1) (n := nr) fun _ _ => Bool.toNat_le _
 rw [Nat.mul_one] at h
 exact h
theorem cnt2_lt {nb nr : Nat} {m m' : Nat → Nat → Bool} (h : ∀ b r, m b r = true → m' b r = true) {b r : Nat} (hb : b < nb) (hr : r < nr) (h1 : m b r = false) (h2 : m' b r = true) : cnt2 nb nr m < cnt2 nb nr m' := by
 refine sumN_lt (fun b _ => sumN_le fun r _ => toNat_le (h b r)) hb (sumN_lt (fun r _ => toNat_le (h b r)) hr ?_)
 rw [h1, h2]
 exact Nat.lt_succ_self 0
theorem pass_cnt {f : Fn} {ins : Ins} (h : WA (aOf f ins)) (hc : (passF f (nB f) ins false).2 = true) : cnt2 (nB f) (nR f) (mI ins) < cnt2 (nB f) (nR f) (mI (passF f (nB f) ins false).1) := by
 rcases pass_ch (Nat.le_refl _) h hc with h1 | ⟨b, hb, r, hr, h1, h2⟩
 ·exact absurd h1 (by decide)
 ·exact cnt2_lt (fun b r => pass_le (Nat.le_refl _) h) hb hr h1 h2
theorem an_comb {Q : AV → Heap → Prop} (f : Fn) (c1 : Bool) (b : Int) (s o : SetD) (hs : WF s) (ho : WF o) (hn : z s.2.1 = z o.2.1) (k : Nat) (fin : Ins)
  (next : Runs E_B9 (qau f (cond (unionR s (some o)) true c1) (IntKind.wrap .i64 (b - 1)) (tOf f.1) f.2.1 (z f.2.2.1) f.2.2.2.1 f.2.2.2.2.1 fin) Q) :
  ∀ i, i ≤ s.2.2.1.length → ∀ r0 : Ins, k < ln (.ptr qaa) r0 → gd (.ptr qaa) r0 k = some (s.1, s.2.1, stp s.2.2.1 o.2.2.1 i, s.2.2.2) → st (.ptr qaa) r0 k (some (unionS s (some o))) = fin →
   Runs E_B9 (qaz k (chgd s.2.2.1 o.2.2.1 i) (s.2.2.1.length : Int) (i : Int) f c1 b r0 o (tOf f.1) f.2.1 (z f.2.2.1) f.2.2.2.1 f.2.2.2.2.1) Q := by
 have hlen : s.2.2.1.length = o.2.2.1.length := by rw [hs.ok.len, ho.ok.len, hn]
 have hbig : s.2.2.1.length ≤ 2000 := by have := hs.ok.len; have := hs.hi; omega
 refine qcl ?_ fun i hi ih => ?_
 ·intro r0 hk hg hf
  refine .tree E_B9_ok (qcx _ _ _ _ _ _ _ _ _ _ _ _ _ _) ?_
  refine qah (fun h => absurd (of_decide_eq_true h) (Int.lt_irrefl _)) fun _ => ?_
  rw [stp_all] at hg
  have e : r0 = fin := by
   rw [← hf]
   have := st_gd (S := .ptr qaa) (l := r0) (i := k)
   rw [hg] at this
   exact this.symm
  subst e
  rw [chgd_all]
  refine qah (fun h => ?_) fun h => ?_
  ·have h : unionR s (some o) = true := h
   rw [h] at next
   exact next
  ·have h : unionR s (some o) = false := h
   rw [h] at next
   exact next
 ·intro r0 hk hg hf
  refine .tree E_B9_ok (qcx _ _ _ _ _ _ _ _ _ _ _ _ _ _) ?_
  have hl : ln (.int .u64) (stp s.2.2.1 o.2.2.1 i) = s.2.2.1.length := stp_len _ _ _
  have hl2 : ln (.int .u64) o.2.2.1 = s.2.2.1.length := hlen.symm
  have hgw : gd (.int .u64) (stp s.2.2.1 o.2.2.1 i) i = s.2.2.1.getD i 0 := stp_get hi
  have hst : st (.int .u64) (stp s.2.2.1 o.2.2.1 i) i (orW (s.2.2.1.getD i 0) (gd (.int .u64) o.2.2.1 i)) = stp s.2.2.1 o.2.2.1 (i + 1) := stp_set hi
  have hw : IntKind.wrap .i64 ((i : Int) + 1) = ((i + 1 : Nat) : Int) := wrap64 _ (by omega) (by omega)
  have hc := chgd_succ s.2.2.1 o.2.2.1 i
  have e0 : ∀ v : SetD, gd qaa (oL qaa (some v)) 0 = v := fun _ => rfl
  have e1 : ∀ v : SetD, ln qaa (oL qaa (some v)) = 1 := fun _ => rfl
  have e2 : ∀ v w : SetD, oH qaa (st qaa (oL qaa (some v)) 0 w) = some w := fun _ _ => rfl
  simp only [hg, e0, e1, e2, Int.toNat_natCast, hl, hl2, hgw, hst, hw]
  refine qah (fun _ => ?_) fun h => absurd (Int.ofNat_lt.2 hi) (of_decide_eq_false h)
  have hr : 0 ≤ (i : Int) ∧ (i : Int) < (s.2.2.1.length : Int) := ⟨Int.natCast_nonneg _, Int.ofNat_lt.2 hi⟩
  repeat (refine ⟨by first | exact hk | exact Nat.zero_lt_one | exact hr | exact hi | exact trivial, fun _ => ?_⟩)
  intro _
  have ih := ih (st (.ptr qaa) r0 k (some (s.1, s.2.1, stp s.2.2.1 o.2.2.1 (i + 1), s.2.2.2))) (by rw [ln_st]; exact hk) (gd_st hk) (by rw [st_st]; exact hf)
  refine qah (fun h => ?_) fun h => ?_
  ·repeat (refine ⟨by first | exact hk | exact Nat.zero_lt_one | exact hr | exact hi | exact trivial, fun _ => ?_⟩)
   rw [h, Bool.true_or] at hc
   rw [hc] at ih
   exact ih
  ·repeat (refine ⟨by first | exact hk | exact Nat.zero_lt_one | exact hr | exact hi | exact trivial, fun _ => ?_⟩)
   rw [h, Bool.false_or] at hc
   rw [hc] at ih
   exact ih
theorem an_pass {Q : AV → Heap → Prop} (f : Fn) (hsm : qan f) (hN : nB f ≤ 9223372036854775000) : ∀ n, n ≤ nB f → ∀ (b : Int) (c : Bool) (ins : Ins), b = (n : Int) - 1 → WA (aOf f ins) → Runs E_B9 (qbr f (passF f n ins c).2 (tOf f.1) f.2.1 (z f.2.2.1) f.2.2.2.1 f.2.2.2.2.1 (passF f n ins c).1) Q → Runs E_B9 (qau f c b (tOf f.1) f.2.1 (z f.2.2.1) f.2.2.2.1 f.2.2.2.2.1 ins) Q
 | 0, _, b, c, ins, hb, hwa, hq => .tree E_B9_ok (liveness_analyze_L4_t _ _ _ _ _ _ _ _ _) (by
  refine qah (fun h => absurd (of_decide_eq_true h) (by omega)) fun _ => ?_
  exact hq)
 | n + 1, hn, b, c, ins, hb, hwa, hq => .tree E_B9_ok (liveness_analyze_L4_t _ _ _ _ _ _ _ _ _) (by
  have hb : b = (n : Int) := by omega
  subst hb
  obtain ⟨g1, g2, g3⟩ := hwa.set (show n < nB f by omega)
  obtain ⟨t1, t2⟩ := tB_ok hwa n
  have hl : ln (.ptr qaa) ins = nB f := hwa.len
  have hk : n < ln (.ptr qaa) ins := by omega
  have e0 : ∀ v : SetD, gd qaa (oL qaa (some v)) 0 = v := fun _ => rfl
  have e1 : ∀ v : SetD, ln qaa (oL qaa (some v)) = 1 := fun _ => rfl
  have hw : IntKind.wrap .i64 ((n : Int) - 1) = (n : Int) - 1 := wrap64 _ (by omega) (by omega)
  have hi : 0 ≤ (n : Int) ∧ (n : Int) < (ln (.ptr qaa) ins : Int) := ⟨Int.natCast_nonneg _, Int.ofNat_lt.2 hk⟩
  have hi2 : 0 ≤ (n : Int) ∧ (n : Int) < (nB f : Int) := ⟨Int.natCast_nonneg _, Int.ofNat_lt.2 hn⟩
  refine qah (fun _ => ?_) fun h => absurd (of_decide_eq_false h) (by omega)
  have v1 : (!(qde (some (sI ins n)))) = false := by rw [show qde (some (sI ins n)) = true from g2.made]; rfl
  have v2 : (!(qde (some (tB f ins n)))) = false := by rw [show qde (some (tB f ins n)) = true from t1.made]; rfl
  simp only [Int.toNat_natCast, g1, e0, e1]
  refine ⟨hi, fun _ => ⟨hk, fun _ => ⟨⟨hwa, hi2⟩, fun _ => ⟨⟨hsm, (hwa.outS n).1, hi2, by omega, ?_⟩, fun _ _ _ => ⟨hk, fun _ => ⟨trivial, fun _ => ?_⟩⟩⟩⟩⟩⟩
  ·unfold nIns
   omega
  refine qah (fun h => absurd (h.symm.trans v1) (by decide)) fun _ => ⟨trivial, fun _ => ?_⟩
  refine qah (fun h => absurd (h.symm.trans v2) (by decide)) fun _ => ?_
  repeat (refine ⟨by first | exact hk | exact Nat.zero_lt_one, fun _ => ?_⟩)
  intro _ _
  refine qah (fun h => absurd (g3.trans t2.symm) (bne_t h)) fun _ => ?_
  repeat (refine ⟨by first | exact hk | exact Nat.zero_lt_one, fun _ => ?_⟩)
  have ih := an_pass f hsm hN n (by omega) ((n : Int) - 1) _ _ rfl (hwa.upd (show n < nB f by omega)) hq
  have := an_comb (Q := Q) f c (n : Int) (sI ins n) (tB f ins n) g2 t1 (g3.trans t2.symm) n (updB f ins n) (by rw [hw]; exact ih) 0 (Nat.zero_le _) ins hk (by rw [stp_zero]; exact g1) rfl
  exact this)
theorem an_fix {Q : AV → Heap → Prop} (f : Fn) (hsm : qan f) (hN : nB f ≤ 9223372036854775000) : ∀ m (ins : Ins), nB f * nR f < cnt2 (nB f) (nR f) (mI ins) + m → WA (aOf f ins) → Q (.tv (.ptr qac) (some (aOf f (fixA f m ins)))) [] → Runs E_B9 (qbr f true (tOf f.1) f.2.1 (z f.2.2.1) f.2.2.2.1 f.2.2.2.2.1 ins) Q
 | 0, ins, hm, hwa, hq => by
  have := cnt2_top (nB f) (nR f) (mI ins)
  omega
 | m + 1, ins, hm, hwa, hq => .tree E_B9_ok (liveness_analyze_L2_t _ _ _ _ _ _ _ _) (by
  have hw : IntKind.wrap .i64 ((nB f : Int) - 1) = (nB f : Int) - 1 := wrap64 _ (by omega) (by omega)
  have hx : Runs E_B9 (qbr f (passF f (nB f) ins false).2 (tOf f.1) f.2.1 (z f.2.2.1) f.2.2.2.1 f.2.2.2.2.1 (passF f (nB f) ins false).1) Q := by
   cases h : (passF f (nB f) ins false).2 with
   | true =>
    refine an_fix f hsm hN m _ ?_ (WA.pass (Nat.le_refl _) hwa) ?_
    ·have := pass_cnt hwa h
     omega
    ·have e : fixA f (m + 1) ins = fixA f m (passF f (nB f) ins false).1 := by
      show cond (passF f (nB f) ins false).2 _ _ = _
      rw [h]; rfl
     rw [e] at hq
     exact hq
   | false =>
    refine .tree E_B9_ok (liveness_analyze_L2_t _ _ _ _ _ _ _ _) ?_
    have e : fixA f (m + 1) ins = (passF f (nB f) ins false).1 := by
     show cond (passF f (nB f) ins false).2 _ _ = _
     rw [h]; rfl
    rw [e] at hq
    exact hq
  have := an_pass (Q := Q) f hsm hN (nB f) (Nat.le_refl _) ((nB f : Int) - 1) false ins rfl hwa hx
  rw [← hw] at this
  exact this)
theorem an_new {Q : AV → Heap → Prop} (f : Fn) (hsm : qan f) (hr : nR f ≤ 65536) (hb : room 136 (nB f)) (hN : nB f ≤ 9223372036854775000) (hq : Q (.tv (.ptr qac) (qbm f)) []) : ∀ i, i ≤ nB f → Runs E_B9 (qcu f (nB f : Nat) i (tOf f.1) f.2.1 (z f.2.2.1) f.2.2.2.1 f.2.2.2.2.1 (List.replicate i (some (newS (nR f : Int))))) Q :=
 qcl (.tree E_B9_ok (liveness_analyze_L0_t _ _ _ _ _ _ _ _ _) (by
  refine qah (fun h => absurd (of_decide_eq_true h) (Int.lt_irrefl _)) fun _ => ?_
  exact an_fix f hsm hN (nB f * nR f + 1) (ins0 f) (by omega) (wa0 hr) hq))
  fun i hi ih => .tree E_B9_ok (liveness_analyze_L0_t _ _ _ _ _ _ _ _ _) (by
   refine qah (fun _ => ⟨⟨Int.natCast_nonneg _, ?_⟩, fun _ => ⟨?_, fun _ _ => ?_⟩⟩) fun h => absurd (Int.ofNat_lt.2 hi) (of_decide_eq_false h)
   ·show (nR f : Int) ≤ 65536
    omega
   ·have h1 := hb.1
    show ((List.replicate i (some (newS (nR f : Int)))).length + 1) * 8 ≤ roomB
    rw [List.length_replicate]
    omega
   ·have e : ap (.ptr qaa) (List.replicate i (some (newS (nR f : Int)))) [some (newS (nR f : Int))] = List.replicate (i + 1) (some (newS (nR f : Int))) := List.replicate_succ'.symm
    rw [wrapS hi (by omega)]
    rw [← e] at ih
    exact ih)
def k_liveness_analyze : Con := con [.d qad] (.ptr qac) (fun x => qan x.1 ∧ nR x.1 ≤ 65536) fun x => qbm x.1
theorem m_liveness_analyze (f : Den qad) (h_f : okD qad f) (hp : qan f ∧ nR f ≤ 65536) : Runs E_B9 (start E_B9 qam [(.tv qad f)]) (fun r_ h_ => r_ = (.tv (.ptr qac) (qbm f)) ∧ h_ = []) := .tree E_B9_ok (liveness_analyze_t f) (by
 obtain ⟨hsm, hr⟩ := hp
 have hb := (okB_of h_f).1
 have hN : nB f ≤ 9223372036854775000 := by
  have h1 : nB f * 136 ≤ roomB := hb.1
  simp only [roomB] at h1
  omega
 exact an_new f hsm hr hb hN ⟨rfl, rfl⟩ 0 (Nat.zero_le _))
theorem c_liveness_analyze : qas E_B9 qam k_liveness_analyze.spec := qbg fun x hx hp => ⟨rfl, m_liveness_analyze x.1 hx.1 hp⟩
def L_B9 : List (FuncId × FSpec) := [(qam, k_liveness_analyze.spec)] ++ L_B8
theorem L_B9_ok : ∀ x ∈ L_B9, qas (ctx []) x.1 x.2 := by
 unfold L_B9
 simp only [List.cons_append, List.nil_append, List.forall_mem_cons]
 exact ⟨c_liveness_analyze, L_B8_ok⟩
def LI_B9 : List IoT := [] ++ LI_B8
theorem LI_B9_ok : ∀ x ∈ LI_B9, qbn (ctx []) x.1 x.2.1 x.2.2 := by
 unfold LI_B9
 simp only [List.cons_append, List.nil_append, List.forall_mem_cons]
 exact LI_B8_ok
end Burn.M21
namespace Burn.M21
open Go Go.BE Go.Proofs
set_option maxRecDepth 100000
set_option linter.unusedVariables false
set_option linter.unusedSimpArgs false
open Burn.Cfg
open Burn.Bit
noncomputable abbrev E_B10 : Ctx := ctx L_B9 LI_B9
theorem E_B10_ok : EOK E_B10 := ctx_ok L_B9_ok LI_B9_ok
def cuts_B10 : CutL := []
def rets_B10 : FuncId → List (Option Fx)
 | _ => []
def H_B10 : Hints := { cut := cutOf cuts_B10, ret := rets_B10 }
theorem math_bits_TrailingZeros64_t (x : Int) : run E_B10 H_B10 qba 3000 (start E_B10 qba [(aint .u64 x)]) = (cond (x == (0 : Int)) (rt (vi (64 : Int)) []) (.chk (0 ≤ (58 : Int)) (.chk (0 ≤ (Int.fdiv (IntKind.wrap .u64 ((IntKind.wrap .u64 (bvand .u64 x (IntKind.wrap .u64 ((0 : Int) - x)))) * (285870213051353865 : Int))) (2 ^ min ((58 : Int)).toNat (IntKind.bits .u64))) ∧ (Int.fdiv (IntKind.wrap .u64 ((IntKind.wrap .u64 (bvand .u64 x (IntKind.wrap .u64 ((0 : Int) - x)))) * (285870213051353865 : Int))) (2 ^ min ((58 : Int)).toNat (IntKind.bits .u64))) < (64 : Nat)) (rt (vi (IntKind.wrap .i64 (iOf .u8 (vget (dz (.int .u8)) 64 deBr (((Int.fdiv (IntKind.wrap .u64 ((IntKind.wrap .u64 (bvand .u64 x (IntKind.wrap .u64 ((0 : Int) - x)))) * (285870213051353865 : Int))) (2 ^ min ((58 : Int)).toNat (IntKind.bits .u64)))).toNat))))) [])))) := by kernel_rfl
theorem deB_all : ∀ k : Fin 64, (0 ≤ Int.fdiv (IntKind.wrap .u64 (((2 ^ k.val : Nat) : Int) * (285870213051353865 : Int))) (2 ^ min ((58 : Int)).toNat (IntKind.bits .u64)) ∧ Int.fdiv (IntKind.wrap .u64 (((2 ^ k.val : Nat) : Int) * (285870213051353865 : Int))) (2 ^ min ((58 : Int)).toNat (IntKind.bits .u64)) < (64 : Nat)) ∧ IntKind.wrap .i64 (iOf .u8 (vget (dz (.int .u8)) 64 deBr ((Int.fdiv (IntKind.wrap .u64 (((2 ^ k.val : Nat) : Int) * (285870213051353865 : Int))) (2 ^ min ((58 : Int)).toNat (IntKind.bits .u64)))).toNat)) = (k.val : Int) := by
 decide +kernel

def qdn : Con := con [.d (.int .u64)] I (fun x => u64 x.1) fun x => tzI x.1
theorem m_math_bits_TrailingZeros64 (x : Int) (h_x : okD (.int .u64) x) (hp : u64 x) : Runs E_B10 (start E_B10 qba [(aint .u64 x)]) (fun r_ h_ => r_ = (vi (tzI x)) ∧ h_ = []) := .tree E_B10_ok (math_bits_TrailingZeros64_t x) (by
 refine qah (fun h => ?_) fun h => ?_
 ·have h : x = 0 := by simpa using h
  subst h
  exact ⟨rfl, rfl⟩
 have h : x ≠ 0 := by simpa using h
 obtain ⟨h1, h2, _⟩ := tz_spec hp h
 have hd := deB_all ⟨_, h2⟩
 rw [lone hp h, h1]
 refine ⟨by decide, fun _ => ⟨hd.1, fun _ => ⟨?_, rfl⟩⟩⟩
 exact congrArg vi hd.2)
theorem c_math_bits_TrailingZeros64 : qas E_B10 qba qdn.spec := qbg fun x hx hp => ⟨rfl, m_math_bits_TrailingZeros64 x.1 hx.1 hp⟩
def L_B10 : List (FuncId × FSpec) := [(qba, qdn.spec)] ++ L_B9
theorem L_B10_ok : ∀ x ∈ L_B10, qas (ctx []) x.1 x.2 := by
 unfold L_B10
 simp only [List.cons_append, List.nil_append, List.forall_mem_cons]
 exact ⟨c_math_bits_TrailingZeros64, L_B9_ok⟩
def LI_B10 : List IoT := [] ++ LI_B9
theorem LI_B10_ok : ∀ x ∈ LI_B10, qbn (ctx []) x.1 x.2.1 x.2.2 := by
 unfold LI_B10
 simp only [List.cons_append, List.nil_append, List.forall_mem_cons]
 exact LI_B9_ok
end Burn.M21
namespace Burn.M21
open Go Go.BE Go.Proofs
set_option maxRecDepth 100000
set_option linter.unusedVariables false
set_option linter.unusedSimpArgs false
open Burn.Cfg
open Burn.Bit
noncomputable abbrev E_B11 : Ctx := ctx L_B10 LI_B10
theorem E_B11_ok : EOK E_B11 := ctx_ok L_B10_ok LI_B10_ok
def cuts_B11 : CutL := [([(20, 2000011)], 38, 0, [0, 11, 12, 13], [], [[5]]),
 ([(20, 2000011)], 38, 2, [0, 3, 4, 11, 12, 13], [], [[5]])]
def rets_B11 : FuncId → List (Option Fx)
 | 20 => [some (.dat (.sl 1 .bool))]
 | _ => []
def H_B11 : Hints := { cut := cutOf cuts_B11, ret := rets_B11 }
noncomputable def qbv (t11 : List (Den (.int .u64))) (t12 : Int) (t13 : Int) (RR : RgL) (out_0 : List (Den .bool)) : Cfg := hcfgx E_B11 f_bitset_Set_All_cl1 0 [(0, (.yld 0)), (11, (.tv (.sl 8 (.int .u64)) t11)), (12, (vi t12)), (13, (vi t13))] [(0, ⟨(.obj (.loop RR .ready none)), 0, [], false, none⟩), (1, ⟨(.cells [(.osl 3 3 [] none)]), 1, [], false, none⟩), (2, ⟨(.obj .defd), 2, [], false, none⟩), (3, ⟨(.arr 0 1 .bool out_0), 3, [], false, none⟩)] 4 [(cfrr E_B11 qbj 0 [(5, (.ref 1 0))] 0 RR).wx none [(some 2, RR)]]
noncomputable def qcg (k : Int) (w : Int) (t11 : List (Den (.int .u64))) (t12 : Int) (t13 : Int) (RR : RgL) (out_0 : List (Den .bool)) : Cfg := hcfgx E_B11 f_bitset_Set_All_cl1 2 [(0, (.yld 0)), (3, (vi k)), (4, (aint .u64 w)), (11, (.tv (.sl 8 (.int .u64)) t11)), (12, (vi t12)), (13, (vi t13))] [(0, ⟨(.obj (.loop RR .ready none)), 0, [], false, none⟩), (1, ⟨(.cells [(.osl 3 3 [] none)]), 1, [], false, none⟩), (2, ⟨(.obj .defd), 2, [], false, none⟩), (3, ⟨(.arr 0 1 .bool out_0), 3, [], false, none⟩)] 4 [(cfrr E_B11 qbj 0 [(5, (.ref 1 0))] 0 RR).wx none [(some 2, RR)]]
theorem liveness_flags_t (s : Den (.ptr qaa)) (n : Int) : run E_B11 H_B11 qbj 3000 (start E_B11 qbj [(.tv (.ptr qaa) s), (vi n)]) = (.chk (n = n) (.chk (0 ≤ n) (.chk (n.toNat * 1 ≤ roomB) (.rg fun R1 => (.chk (True) (.know True (cond (!(qde s)) (rt (.tv (.sl 1 .bool) (List.replicate n.toNat (dz .bool))) []) (.chk ((oN qaa s) = false) (hd (qbv ((oG qaa s).2.2.1) ((ln (.int .u64) ((oG qaa s).2.2.1)) : Int) (0 : Int) R1 (List.replicate n.toNat (dz .bool)))))))))))) := by kernel_rfl
theorem liveness_flags_cl1_L0_t (t11 : List (Den (.int .u64))) (t12 : Int) (t13 : Int) (RR : RgL) (out_0 : List (Den .bool)) : run E_B11 H_B11 qbj 3000 (qbv t11 t12 t13 RR out_0) = (cond (decide (t13 < t12)) (.chk (0 ≤ t13 ∧ t13 < (ln (.int .u64) t11)) (hd (qcg t13 (iOf .u64 (gd (.int .u64) t11 t13.toNat)) t11 t12 t13 RR out_0))) (rt (.tv (.sl 1 .bool) out_0) [])) := by kernel_rfl
theorem liveness_flags_cl1_L2_t (k : Int) (w : Int) (t11 : List (Den (.int .u64))) (t12 : Int) (t13 : Int) (RR : RgL) (out_0 : List (Den .bool)) : run E_B11 H_B11 qbj 3000 (qcg k w t11 t12 t13 RR out_0) = (cond (w != (0 : Int)) (.chk (u64 w) (.know (okD (.int .i64) (tzI w)) (.chk (RR = RR) (.chk (0 ≤ (IntKind.wrap .i64 ((IntKind.wrap .i64 ((64 : Int) * k)) + (tzI w))) ∧ (IntKind.wrap .i64 ((IntKind.wrap .i64 ((64 : Int) * k)) + (tzI w))) < (ln .bool out_0)) (.chk (((IntKind.wrap .i64 ((IntKind.wrap .i64 ((64 : Int) * k)) + (tzI w)))).toNat < (ln .bool out_0)) (hd (qcg k (IntKind.wrap .u64 (bvand .u64 w (IntKind.wrap .u64 (w - (1 : Int))))) t11 t12 t13 RR (st .bool out_0 (((IntKind.wrap .i64 ((IntKind.wrap .i64 ((64 : Int) * k)) + (tzI w)))).toNat) true)))))))) (hd (qbv t11 t12 (IntKind.wrap .i64 (t13 + (1 : Int))) RR out_0))) := by kernel_rfl
def flagsF (s : Den (.ptr qaa)) (n : Int) : List (Den .bool) := outP n.toNat (fun r => hasS s (r : Int))
theorem fl_bits {Q : AV → Heap → Prop} (ws : List (Den (.int .u64))) (len : Int) (k N : Nat) (hN : N ≤ 65536) (R : RgL) : ∀ m (w : Int) (p : Nat → Bool), w.toNat < m → u64 w → (∀ j, tb w j = true → 64 * k + j < N) →
  Runs E_B11 (qbv ws len (IntKind.wrap .i64 ((k : Int) + 1)) R (outP N (fun r => p r || (decide (r / 64 = k) && tb w (r % 64))))) Q → Runs E_B11 (qcg (k : Int) w ws len (k : Int) R (outP N p)) Q
 | 0, w, p, hm, _, _, _ => absurd hm (by omega)
 | m + 1, w, p, hm, hw, hb, hq => .tree E_B11_ok (liveness_flags_cl1_L2_t _ _ _ _ _ _ _) (by
  refine qah (fun h => ?_) fun h => ?_
  ·have h0 : w ≠ 0 := by simpa using h
   obtain ⟨h1, h2, h3, _⟩ := tz_spec hw h0
   obtain ⟨c1, c2, c3⟩ := clear_tb hw h0
   generalize hl : low 64 w.toNat 0 = l at h1 h2 h3 c3
   have hlt := hb l h3
   have e1 : IntKind.wrap .i64 ((64 : Int) * k) = ((64 * k : Nat) : Int) := by
    rw [show (64 : Int) * (k : Int) = ((64 * k : Nat) : Int) by omega]
    exact wrap64 _ (by omega) (by omega)
   have e2 : IntKind.wrap .i64 (((64 * k : Nat) : Int) + (l : Int)) = ((64 * k + l : Nat) : Int) := by
    rw [show ((64 * k : Nat) : Int) + (l : Int) = ((64 * k + l : Nat) : Int) by omega]
    exact wrap64 _ (by omega) (by omega)
   have el : ln .bool (outP N p) = N := qck N p
   have es : st .bool (outP N p) (64 * k + l) true = outP N (fun r => if r = 64 * k + l then true else p r) := outP_set N p (64 * k + l) true
   refine ⟨hw, fun _ _ => ⟨rfl, fun _ => ?_⟩⟩
   rw [h1, e1, e2, el, Int.toNat_natCast, es]
   refine ⟨⟨Int.natCast_nonneg _, Int.ofNat_lt.2 hlt⟩, fun _ => ⟨hlt, fun _ => ?_⟩⟩
   refine fl_bits ws len k N hN R m _ _ (by omega) c1 (fun j hj => hb j ?_) ?_
   ·rw [c3] at hj
    simp only [Bool.and_eq_true] at hj
    exact hj.1
   ·have eq : (fun r => (if r = 64 * k + l then true else p r) || (decide (r / 64 = k) && tb (IntKind.wrap .u64 (bvand .u64 w (IntKind.wrap .u64 (w - (1 : Int))))) (r % 64))) = (fun r => p r || (decide (r / 64 = k) && tb w (r % 64))) := by
     funext r
     rw [c3]
     by_cases hr : r = 64 * k + l
     ·have a1 : r / 64 = k := by omega
      have a2 : r % 64 = l := by omega
      rw [if_pos hr, a2, h3, decide_eq_true a1]
      simp
     ·rw [if_neg hr]
      by_cases hd : r / 64 = k
      ·rw [decide_eq_false (show ¬ r % 64 = l by omega)]
       simp
      ·rw [decide_eq_false hd]
       simp
    rw [eq]
    exact hq
  ·have h0 : w = 0 := by simpa using h
   subst h0
   have eq : (fun r => p r || (decide (r / 64 = k) && tb 0 (r % 64))) = p := by
    funext r
    rw [tb_zero, Bool.and_false, Bool.or_false]
   rw [eq] at hq
   exact hq)
theorem fl_words (s : SetD) (hs : WF s) (N : Nat) (hN : N = (z s.2.1).toNat) (hr : room 8 (ln (.int .u64) s.2.2.1)) (R : RgL) : ∀ k, k ≤ ln (.int .u64) s.2.2.1 → ∀ p : Nat → Bool, Runs E_B11 (qbv s.2.2.1 (ln (.int .u64) s.2.2.1 : Nat) k R (outP N p)) (fun r_ h_ => r_ = .tv (.sl 1 .bool) (outP N (fun r => p r || (decide (k ≤ r / 64) && memW s.2.2.1 r))) ∧ h_ = []) :=
 qcl (fun p => .tree E_B11_ok (liveness_flags_cl1_L0_t _ _ _ _ _) (by
  refine qah (fun h => absurd (of_decide_eq_true h) (Int.lt_irrefl _)) fun _ => ?_
  have eq : outP N (fun r => p r || (decide (ln (.int .u64) s.2.2.1 ≤ r / 64) && memW s.2.2.1 r)) = outP N p := outP_ext fun r hr => by
   have := hs.ok.lt (r := r) (by omega)
   rw [decide_eq_false (show ¬ ln (.int .u64) s.2.2.1 ≤ r / 64 from fun h => absurd this (by show ¬ r / 64 < s.2.2.1.length; have h : s.2.2.1.length ≤ r / 64 := h; omega)), Bool.false_and, Bool.or_false]
  rw [eq]
  exact ⟨rfl, rfl⟩))
  fun k hk ih p => .tree E_B11_ok (liveness_flags_cl1_L0_t _ _ _ _ _) (by
   have hhi := hs.hi
   refine qah (fun _ => ⟨⟨Int.natCast_nonneg _, Int.ofNat_lt.2 hk⟩, fun _ => ?_⟩) fun h => absurd (Int.ofNat_lt.2 hk) (of_decide_eq_false h)
   rw [Int.toNat_natCast]
   refine fl_bits s.2.2.1 _ k N (by omega) R ((s.2.2.1.getD k 0).toNat + 1) (s.2.2.1.getD k 0) p (by omega) (hs.ok.get k) (fun j hj => ?_) ?_
   ·have hj64 : j < 64 := Nat.lt_of_not_le fun h => by
     rw [tb_big (hs.ok.get k) h] at hj
     exact absurd hj (by decide)
    have hm : memW s.2.2.1 (64 * k + j) = true := by
     unfold memW
     rw [show (64 * k + j) / 64 = k by omega, show (64 * k + j) % 64 = j by omega]
     exact hj
    refine Nat.lt_of_not_le fun h => ?_
    rw [hs.ok.top (64 * k + j) (by omega)] at hm
    exact absurd hm (by decide)
   ·rw [wrapS hk (qcf hr)]
    have := ih (fun r => p r || (decide (r / 64 = k) && tb (s.2.2.1.getD k 0) (r % 64)))
    have eq : (fun r => (p r || (decide (r / 64 = k) && tb (s.2.2.1.getD k 0) (r % 64))) || (decide (k + 1 ≤ r / 64) && memW s.2.2.1 r)) = (fun r => p r || (decide (k ≤ r / 64) && memW s.2.2.1 r)) := by
     funext r
     by_cases h : r / 64 = k
     ·rw [decide_eq_true h, decide_eq_false (show ¬ k + 1 ≤ r / 64 by omega), decide_eq_true (show k ≤ r / 64 by omega)]
      unfold memW
      rw [h]
      simp
     ·rw [decide_eq_false h, show decide (k + 1 ≤ r / 64) = decide (k ≤ r / 64) from decide_eq_decide.2 (by omega)]
      simp
    rw [eq] at this
    exact this)
def k_liveness_flags : Con := con [.d (.ptr qaa), .d I] (.sl 1 .bool) (fun x => wfP x.1 ∧ z x.2.1 = z (oG qaa x.1).2.1) fun x => flagsF x.1 x.2.1
theorem m_liveness_flags (s : Den (.ptr qaa)) (n : Int) (h_s : okD (.ptr qaa) s) (h_n : okD I n) (hp : wfP s ∧ z n = z (oG qaa s).2.1) : Runs E_B11 (start E_B11 qbj [(.tv (.ptr qaa) s), (vi n)]) (fun r_ h_ => r_ = (.tv (.sl 1 .bool) (flagsF s n)) ∧ h_ = []) := .tree E_B11_ok (liveness_flags_t s n) (by
 obtain ⟨⟨y, rfl, hy⟩, hn⟩ := hp
 have hn : n = z y.2.1 := hn
 have hlo := hy.lo
 have hhi := hy.hi
 refine ⟨rfl, fun _ => ⟨by omega, fun _ => ⟨?_, fun _ R => ⟨trivial, fun _ _ => ?_⟩⟩⟩⟩
 ·simp only [roomB]
  omega
 refine qah (fun h => absurd (h.symm.trans (show (!(qde (some y))) = false by rw [show qde (some y) = true from hy.made]; rfl)) (by decide)) fun _ => ⟨rfl, fun _ => ?_⟩
 have hroom : room 8 (ln (.int .u64) y.2.2.1) := by
  have := hy.ok.len
  have h : ln (.int .u64) y.2.2.1 ≤ 2000 := by show y.2.2.1.length ≤ 2000; omega
  refine ⟨?_, ?_⟩ <;> simp only [roomB] <;> omega
 have := fl_words y hy n.toNat (by rw [hn]) hroom R 0 (Nat.zero_le _) (fun _ => false)
 rw [← outP_false] at this
 have eq : outP n.toNat (fun r => false || (decide (0 ≤ r / 64) && memW y.2.2.1 r)) = flagsF (some y) n := outP_ext fun r _ => by
  rw [decide_eq_true (Nat.zero_le _), Bool.true_and, Bool.false_or]
  exact (hy.nat r).symm
 rw [eq] at this
 exact this)
theorem c_liveness_flags : qas E_B11 qbj k_liveness_flags.spec := qbg fun x hx hp => ⟨rfl, m_liveness_flags x.1 x.2.1 hx.1 hx.2.1 hp⟩
def L_B11 : List (FuncId × FSpec) := [(qbj, k_liveness_flags.spec)] ++ L_B10
theorem L_B11_ok : ∀ x ∈ L_B11, qas (ctx []) x.1 x.2 := by
 unfold L_B11
 simp only [List.cons_append, List.nil_append, List.forall_mem_cons]
 exact ⟨c_liveness_flags, L_B10_ok⟩
def LI_B11 : List IoT := [] ++ LI_B10
theorem LI_B11_ok : ∀ x ∈ LI_B11, qbn (ctx []) x.1 x.2.1 x.2.2 := by
 unfold LI_B11
 simp only [List.cons_append, List.nil_append, List.forall_mem_cons]
 exact LI_B10_ok
end Burn.M21
namespace Burn.M21
open Go Go.BE Go.Proofs
set_option maxRecDepth 100000
set_option linter.unusedVariables false
set_option linter.unusedSimpArgs false
open Burn.Cfg
open Burn.Bit
noncomputable abbrev E_B12 : Ctx := ctx L_B11 LI_B11
theorem qbt : EOK E_B12 := ctx_ok L_B11_ok LI_B11_ok
def cuts_B12 : CutL := [([], 5, 0, [1, 3, 9, 10, 11], [], []),
 ([], 5, 2, [1, 3, 9, 10, 11, 22, 23, 24], [], []),
 ([], 8, 0, [1, 3, 4, 10, 11], [(.t 4, .own 24 (.sl 1 .bool))], []),
 ([], 10, 0, [1, 3, 4, 10, 11], [(.t 4, .own 24 (.sl 1 .bool))], []),
 ([], 12, 0, [0, 1, 12, 13], [], []),
 ([], 15, 0, [1, 7, 8, 9], [], []),
 ([], 41, 0, [1, 7, 8, 9], [], [])]
def rets_B12 : FuncId → List (Option Fx)
 | 8 => [some (.dat (.sl 24 (.sl 1 .bool)))]
 | 10 => [some (.dat (.sl 24 (.sl 1 .bool)))]
 | 13 => [some (.dat (.sl 1 .bool))]
 | _ => []
def H_B12 : Hints := { cut := cutOf cuts_B12, ret := rets_B12 }
noncomputable def r21_in_L0 (n : Int) (t7 : List (Den I)) (t8 : Int) (t9 : Int) : Cfg := hcfg E_B12 f_r21_in 0 [(1, (vi n)), (7, (.tv (.sl 8 I) t7)), (8, (vi t8)), (9, (vi t9))] [] 0
theorem r21_in_t (l : List (Den I)) (n : Int) : run E_B12 H_B12 f_r21_in 3000 (start E_B12 f_r21_in [(.tv (.sl 8 I) l), (vi n)]) = (hd (r21_in_L0 n l ((ln I l) : Int) (0 : Int))) := by kernel_rfl
theorem r21_in_L0_t (n : Int) (t7 : List (Den I)) (t8 : Int) (t9 : Int) : run E_B12 H_B12 f_r21_in 3000 (r21_in_L0 n t7 t8 t9) = (cond (decide (t9 < t8)) (.chk (0 ≤ t9 ∧ t9 < (ln I t7)) (cond ((z (gd I t7 t9.toNat)) == n) (rt (vb true) []) (hd (r21_in_L0 n t7 t8 (IntKind.wrap .i64 (t9 + (1 : Int))))))) (rt (vb false) [])) := by kernel_rfl
noncomputable def law21_has_L0 (n : Int) (t7 : List (Den I)) (t8 : Int) (t9 : Int) : Cfg := hcfg E_B12 qei 0 [(1, (vi n)), (7, (.tv (.sl 8 I) t7)), (8, (vi t8)), (9, (vi t9))] [] 0
theorem law21_has_t (l : List (Den I)) (n : Int) : run E_B12 H_B12 qei 3000 (start E_B12 qei [(.tv (.sl 8 I) l), (vi n)]) = (hd (law21_has_L0 n l ((ln I l) : Int) (0 : Int))) := by kernel_rfl
theorem law21_has_L0_t (n : Int) (t7 : List (Den I)) (t8 : Int) (t9 : Int) : run E_B12 H_B12 qei 3000 (law21_has_L0 n t7 t8 t9) = (cond (decide (t9 < t8)) (.chk (0 ≤ t9 ∧ t9 < (ln I t7)) (cond ((z (gd I t7 t9.toNat)) == n) (rt (vb true) []) (hd (law21_has_L0 n t7 t8 (IntKind.wrap .i64 (t9 + (1 : Int))))))) (rt (vb false) [])) := by kernel_rfl
noncomputable def qee (a : List (Den .bool)) (b : List (Den .bool)) (t12 : Int) (t13 : Int) : Cfg := hcfg E_B12 qcd 0 [(0, (.tv (.sl 1 .bool) a)), (1, (.tv (.sl 1 .bool) b)), (12, (vi t12)), (13, (vi t13))] [] 0
theorem r06_SameBools_t (a : List (Den .bool)) (b : List (Den .bool)) : run E_B12 H_B12 qcd 3000 (start E_B12 qcd [(.tv (.sl 1 .bool) a), (.tv (.sl 1 .bool) b)]) = (cond (((ln .bool a) : Int) != ((ln .bool b) : Int)) (rt (vb false) []) (hd (qee a b ((ln .bool a) : Int) (0 : Int)))) := by kernel_rfl
theorem r06_SameBools_L0_t (a : List (Den .bool)) (b : List (Den .bool)) (t12 : Int) (t13 : Int) : run E_B12 H_B12 qcd 3000 (qee a b t12 t13) = (cond (decide (t13 < t12)) (.chk (0 ≤ t13 ∧ t13 < (ln .bool a)) (.chk (0 ≤ t13 ∧ t13 < (ln .bool b)) (cond (!((bOf (gd .bool a t13.toNat)) == (bOf (gd .bool b t13.toNat)))) (rt (vb false) []) (hd (qee a b t12 (IntKind.wrap .i64 (t13 + (1 : Int)))))))) (rt (vb true) [])) := by kernel_rfl
noncomputable def qeb (f : Den qad) (n : Int) (t9 : List (Den qab)) (t10 : Int) (t11 : Int) : Cfg := hcfg E_B12 qcb 0 [(1, (.rtp qad f)), (3, (vi n)), (9, (.tv (.sl 136 qab) t9)), (10, (vi t10)), (11, (vi t11))] [] 0
noncomputable def law21_small_L2 (f : Den qad) (n : Int) (t9 : List (Den qab)) (t10 : Int) (t11 : Int) (t22 : List (Den qaf)) (t23 : Int) (t24 : Int) : Cfg := hcfg E_B12 qcb 2 [(1, (.rtp qad f)), (3, (vi n)), (9, (.tv (.sl 136 qab) t9)), (10, (vi t10)), (11, (vi t11)), (22, (.tv (.sl 80 qaf) t22)), (23, (vi t23)), (24, (vi t24))] [] 0
theorem law21_small_t (f : Den qad) : run E_B12 H_B12 qcb 3000 (start E_B12 qcb [(.tv qad f)]) = (hd (qeb f (0 : Int) f.2.2.2.2.1 ((ln qab f.2.2.2.2.1) : Int) (0 : Int))) := by kernel_rfl
theorem law21_small_L0_t (f : Den qad) (n : Int) (t9 : List (Den qab)) (t10 : Int) (t11 : Int) : run E_B12 H_B12 qcb 3000 (qeb f n t9 t10 t11) = (cond (decide (t11 < t10)) (.chk (0 ≤ t11 ∧ t11 < (ln qab t9)) (hd (law21_small_L2 f (IntKind.wrap .i64 (n + (IntKind.wrap .i64 ((1 : Int) + ((ln qaf ((gd qab t9 t11.toNat).2.1)) : Int))))) t9 t10 t11 ((gd qab t9 t11.toNat).2.1) ((ln qaf ((gd qab t9 t11.toNat).2.1)) : Int) (0 : Int)))) (cond (decide (n ≤ (150 : Int))) (cond (decide (((ln I f.2.2.2.1) : Int) ≤ (120 : Int))) (rt (vb (decide (((ln qab f.2.2.2.2.1) : Int) ≤ (40 : Int)))) []) (rt (vb false) [])) (rt (vb false) []))) := by kernel_rfl
theorem law21_small_L2_t (f : Den qad) (n : Int) (t9 : List (Den qab)) (t10 : Int) (t11 : Int) (t22 : List (Den qaf)) (t23 : Int) (t24 : Int) : run E_B12 H_B12 qcb 3000 (law21_small_L2 f n t9 t10 t11 t22 t23 t24) = (cond (decide (t24 < t23)) (.chk (0 ≤ t24 ∧ t24 < (ln qaf t22)) (.chk ((8 : Int) ≠ 0) (hd (law21_small_L2 f (IntKind.wrap .i64 (n + (IntKind.wrap .i64 (Int.tdiv ((ln I ((gd qaf t22 t24.toNat).2.2.2.1)) : Int) (8 : Int))))) t9 t10 t11 t22 t23 (IntKind.wrap .i64 (t24 + (1 : Int))))))) (hd (qeb f n t9 t10 (IntKind.wrap .i64 (t11 + (1 : Int)))))) := by kernel_rfl
noncomputable def liveness_In_L0 (f : Den qad) (a : Den (.ptr qac)) (t10 : Int) (t11 : Int) (out : List (Den (.sl 1 .bool))) : Cfg := hcfg E_B12 qcv 0 [(1, (.rtp qad f)), (3, (.tv (.ptr qac) a)), (4, (.osl 0 0 [] none)), (10, (vi t10)), (11, (vi t11))] [(0, ⟨(.arr 0 24 (.sl 1 .bool) out), 0, [], false, none⟩)] 1
theorem liveness_In_t (f : Den qad) : run E_B12 H_B12 qcv 3000 (start E_B12 qcv [(.tv qad f)]) = (.chk (qan f ∧ nR f ≤ 65536) (.know (okD (.ptr qac) (qbm f)) (hd (liveness_In_L0 f (qbm f) ((ln qab f.2.2.2.2.1) : Int) (0 : Int) ([] : List (Den (.sl 1 .bool))))))) := by kernel_rfl
theorem liveness_In_L0_t (f : Den qad) (a : Den (.ptr qac)) (t10 : Int) (t11 : Int) (out : List (Den (.sl 1 .bool))) : run E_B12 H_B12 qcv 3000 (liveness_In_L0 f a t10 t11 out) = (cond (decide (t11 < t10)) (.chk ((oN qac a) = false) (.chk (0 ≤ t11 ∧ t11 < (ln (.ptr qaa) ((oG qac a).2.1))) (.chk (wfP (gd (.ptr qaa) ((oG qac a).2.1) t11.toNat) ∧ z ((ln I f.2.2.2.1) : Int) = z (oG qaa (gd (.ptr qaa) ((oG qac a).2.1) t11.toNat)).2.1) (.chk (((ln (.sl 1 .bool) out) + (1 : Nat)) * 24 ≤ roomB) (.know (okD (.sl 1 .bool) (flagsF (gd (.ptr qaa) ((oG qac a).2.1) t11.toNat) ((ln I f.2.2.2.1) : Int))) (hd (liveness_In_L0 f a t10 (IntKind.wrap .i64 (t11 + (1 : Int))) (ap (.sl 1 .bool) out ([(flagsF (gd (.ptr qaa) ((oG qac a).2.1) t11.toNat) ((ln I f.2.2.2.1) : Int))] : List (Den (.sl 1 .bool))))))))))) (rt (.tv (.sl 24 (.sl 1 .bool)) out) [])) := by kernel_rfl
noncomputable def liveness_Out_L0 (f : Den qad) (a : Den (.ptr qac)) (t10 : Int) (t11 : Int) (out : List (Den (.sl 1 .bool))) : Cfg := hcfg E_B12 qcj 0 [(1, (.rtp qad f)), (3, (.tv (.ptr qac) a)), (4, (.osl 0 0 [] none)), (10, (vi t10)), (11, (vi t11))] [(0, ⟨(.arr 0 24 (.sl 1 .bool) out), 0, [], false, none⟩)] 1
theorem liveness_Out_t (f : Den qad) : run E_B12 H_B12 qcj 3000 (start E_B12 qcj [(.tv qad f)]) = (.chk (qan f ∧ nR f ≤ 65536) (.know (okD (.ptr qac) (qbm f)) (hd (liveness_Out_L0 f (qbm f) ((ln qab f.2.2.2.2.1) : Int) (0 : Int) ([] : List (Den (.sl 1 .bool))))))) := by kernel_rfl
theorem liveness_Out_L0_t (f : Den qad) (a : Den (.ptr qac)) (t10 : Int) (t11 : Int) (out : List (Den (.sl 1 .bool))) : run E_B12 H_B12 qcj 3000 (liveness_Out_L0 f a t10 t11 out) = (cond (decide (t11 < t10)) (.chk ((oN qac a) = false) (.chk (WA (oG qac a) ∧ 0 ≤ z t11 ∧ z t11 < (ln qab (qat (oG qac a).1) : Int)) (.chk (wfP (some (outS (oG qac a) t11)) ∧ z ((ln I f.2.2.2.1) : Int) = z (oG qaa (some (outS (oG qac a) t11))).2.1) (.chk (((ln (.sl 1 .bool) out) + (1 : Nat)) * 24 ≤ roomB) (.know True (.know (okD (.sl 1 .bool) (flagsF (some (outS (oG qac a) t11)) ((ln I f.2.2.2.1) : Int))) (hd (liveness_Out_L0 f a t10 (IntKind.wrap .i64 (t11 + (1 : Int))) (ap (.sl 1 .bool) out ([(flagsF (some (outS (oG qac a) t11)) ((ln I f.2.2.2.1) : Int))] : List (Den (.sl 1 .bool)))))))))))) (rt (.tv (.sl 24 (.sl 1 .bool)) out) [])) := by kernel_rfl
theorem liveness_Before_t (f : Den qad) (at_ : Den qag) : run E_B12 H_B12 qcp 3000 (start E_B12 qcp [(.tv qad f), (.tv qag at_)]) = (cond (decide ((z at_.1) < (0 : Int))) (rt (.tv (.sl 1 .bool) ([] : List (Den .bool))) []) (cond (decide ((z at_.1) ≥ ((ln qab f.2.2.2.2.1) : Int))) (rt (.tv (.sl 1 .bool) ([] : List (Den .bool))) []) (cond (decide ((z at_.2.1) < (-1 : Int))) (rt (.tv (.sl 1 .bool) ([] : List (Den .bool))) []) (.chk (0 ≤ (z at_.1) ∧ (z at_.1) < (ln qab f.2.2.2.2.1)) (cond (decide ((z at_.2.1) > ((ln qaf ((gd qab f.2.2.2.2.1 (((z at_.1)).toNat)).2.1)) : Int))) (rt (.tv (.sl 1 .bool) ([] : List (Den .bool))) []) (.chk (qan f ∧ nR f ≤ 65536) (.know (okD (.ptr qac) (qbm f)) (.chk ((oN qac (qbm f)) = false) (.chk (WA (oG qac (qbm f)) ∧ 0 ≤ z at_.1 ∧ z at_.1 < (ln qab (qat (oG qac (qbm f)).1) : Int)) (.chk ((oN qac (qbm f)) = false) (.chk (preB (oG qac (qbm f)) (outS (oG qac (qbm f)) at_.1) at_.1 at_.2.1) (.chk (wfP (some (backS (oG qac (qbm f)) (outS (oG qac (qbm f)) at_.1) at_.1 at_.2.1)) ∧ z ((ln I f.2.2.2.1) : Int) = z (oG qaa (some (backS (oG qac (qbm f)) (outS (oG qac (qbm f)) at_.1) at_.1 at_.2.1))).2.1) (.know True (.know True (.know (okD (.sl 1 .bool) (flagsF (some (backS (oG qac (qbm f)) (outS (oG qac (qbm f)) at_.1) at_.1 at_.2.1)) ((ln I f.2.2.2.1) : Int))) (rt (.tv (.sl 1 .bool) (flagsF (some (backS (oG qac (qbm f)) (outS (oG qac (qbm f)) at_.1) at_.1 at_.2.1)) ((ln I f.2.2.2.1) : Int))) [])))))))))))))))) := by kernel_rfl
def inL (l : List (Den I)) (n : Int) : Bool := List.any l (fun x => (z x) == n)
def sameB : List (Den .bool) → List (Den .bool) → Bool
 | [], _ => true
 | x :: l, m => cond (!((bOf x) == (bOf (gd .bool m 0)))) false (sameB l (List.drop 1 m))
def qby (a b : List (Den .bool)) : Bool := cond ((ln .bool a : Int) != (ln .bool b : Int)) false (sameB a b)
def insN (l : List (Den qaf)) (n : Int) : Int := List.foldl (fun n i => IntKind.wrap .i64 (n + (IntKind.wrap .i64 (Int.tdiv ((ln I i.2.2.2.1) : Int) (8 : Int))))) n l
def blN (l : List (Den qab)) (n : Int) : Int := List.foldl (fun n b => insN b.2.1 (IntKind.wrap .i64 (n + (IntKind.wrap .i64 ((1 : Int) + ((ln qaf b.2.1) : Int)))))) n l
def smallB (f : Fn) : Bool := decide (blN (qat f) 0 ≤ (150 : Int)) && (decide ((nR f : Int) ≤ (120 : Int)) && decide ((nB f : Int) ≤ (40 : Int)))
def mapN {α : Type} (n : Nat) (g : Nat → α) : List α := (List.range n).map g
theorem qdg {α : Type} (n : Nat) (g : Nat → α) : (mapN n g).length = n := by simp [mapN]
theorem mapN_succ {α : Type} (n : Nat) (g : Nat → α) : mapN (n + 1) g = mapN n g ++ [g n] := by simp [mapN, List.range_succ]
def InF (f : Fn) : List (Den (.sl 1 .bool)) := mapN (nB f) (fun b => flagsF (gd (.ptr qaa) (anF f) b) (nR f : Int))
def OutF (f : Fn) : List (Den (.sl 1 .bool)) := mapN (nB f) (fun b => flagsF (some (outS (aOf f (anF f)) (b : Int))) (nR f : Int))
def posB (f : Fn) (b i : Int) : Bool := decide (0 ≤ b) && (decide (b < (nB f : Int)) && (decide (-1 ≤ i) && decide (i ≤ nIns f b)))
def qbw (f : Fn) (p : Den qag) : List (Den .bool) := cond (posB f (z p.1) (z p.2.1)) (flagsF (some (backS (aOf f (anF f)) (outS (aOf f (anF f)) (z p.1)) (z p.1) (z p.2.1))) (nR f : Int)) []
theorem WA.fix {f : Fn} : ∀ {m : Nat} {ins : Ins}, WA (aOf f ins) → WA (aOf f (fixA f m ins))
 | 0, _, h => h
 | m + 1, ins, h => by
  show WA (aOf f (cond (passF f (nB f) ins false).2 (fixA f m (passF f (nB f) ins false).1) (passF f (nB f) ins false).1))
  have hp := WA.pass (c := false) (Nat.le_refl _) h
  cases (passF f (nB f) ins false).2 with
  | true => exact WA.fix hp
  | false => exact hp
theorem wa_an {f : Fn} (h : nR f ≤ 65536) : WA (aOf f (anF f)) := (wa0 h).fix
theorem an_set {f : Fn} (h : nR f ≤ 65536) {b : Nat} (hb : b < nB f) : wfP (gd (.ptr qaa) (anF f) b) ∧ (nR f : Int) = z (oG qaa (gd (.ptr qaa) (anF f) b)).2.1 := by
 obtain ⟨y, h1, h2, h3⟩ := (wa_an h).ok b hb
 have h1 : gd (.ptr qaa) (anF f) b = some y := h1
 rw [h1]
 exact ⟨⟨y, rfl, h2⟩, h3.symm⟩
theorem r21_in_l (l : List (Den I)) (hl : ln I l < 9223372036854775807) (n : Int) : ∀ i, i ≤ ln I l → Runs E_B12 (r21_in_L0 n l (ln I l : Nat) i) (fun x h => x = vb (inL (l.drop i) n) ∧ h = []) :=
 qcl (.tree qbt (r21_in_L0_t _ _ _ _) (by
  rw [drop_ln]
  simp only [sS, sL,  inL, List.any_nil]))
  fun i hi ih => .tree qbt (r21_in_L0_t _ _ _ _) (by
   rw [qdq hi]
   simp only [sS, sL,  hi, wrapS hi hl, inL, List.any_cons]
   refine ⟨fun h => by rw [h]; rfl, fun h => ?_⟩
   rw [h]
   exact ih)
def k_r21_in : Con := con [.d (.sl 8 I), .d I] .bool (fun x => True) fun x => inL x.1 x.2.1
theorem m_r21_in (l : List (Den I)) (n : Int) (h_l : okD (.sl 8 I) l) (h_n : okD I n) (hp : True) : Runs E_B12 (start E_B12 f_r21_in [(.tv (.sl 8 I) l), (vi n)]) (fun r_ h_ => r_ = (vb (inL l n)) ∧ h_ = []) := .tree qbt (r21_in_t l n) (by
 exact r21_in_l l (qcf h_l.1) n 0 (Nat.zero_le _))
theorem c_r21_in : qas E_B12 f_r21_in k_r21_in.spec := qbg fun x hx hp => ⟨rfl, m_r21_in x.1 x.2.1 hx.1 hx.2.1 hp⟩
theorem law21_has_l (l : List (Den I)) (hl : ln I l < 9223372036854775807) (n : Int) : ∀ i, i ≤ ln I l → Runs E_B12 (law21_has_L0 n l (ln I l : Nat) i) (fun x h => x = vb (inL (l.drop i) n) ∧ h = []) :=
 qcl (.tree qbt (law21_has_L0_t _ _ _ _) (by
  rw [drop_ln]
  simp only [sS, sL,  inL, List.any_nil]))
  fun i hi ih => .tree qbt (law21_has_L0_t _ _ _ _) (by
   rw [qdq hi]
   simp only [sS, sL,  hi, wrapS hi hl, inL, List.any_cons]
   refine ⟨fun h => by rw [h]; rfl, fun h => ?_⟩
   rw [h]
   exact ih)
def k_law21_has : Con := con [.d (.sl 8 I), .d I] .bool (fun x => True) fun x => inL x.1 x.2.1
theorem m_law21_has (l : List (Den I)) (n : Int) (h_l : okD (.sl 8 I) l) (h_n : okD I n) (hp : True) : Runs E_B12 (start E_B12 qei [(.tv (.sl 8 I) l), (vi n)]) (fun r_ h_ => r_ = (vb (inL l n)) ∧ h_ = []) := .tree qbt (law21_has_t l n) (by
 exact law21_has_l l (qcf h_l.1) n 0 (Nat.zero_le _))
theorem c_law21_has : qas E_B12 qei k_law21_has.spec := qbg fun x hx hp => ⟨rfl, m_law21_has x.1 x.2.1 hx.1 hx.2.1 hp⟩
theorem r06_same_l (a b : List (Den .bool)) (hl : ln .bool a < 9223372036854775807) (he : ln .bool a = ln .bool b) : ∀ i, i ≤ ln .bool a → Runs E_B12 (qee a b (ln .bool a : Nat) i) (fun x h => x = vb (sameB (a.drop i) (b.drop i)) ∧ h = []) :=
 qcl (.tree qbt (r06_SameBools_L0_t _ _ _ _) (by
  rw [drop_ln]
  refine qah (fun h => absurd (of_decide_eq_true h) (Int.lt_irrefl _)) fun _ => ?_
  exact ⟨rfl, rfl⟩))
  fun i hi ih => .tree qbt (r06_SameBools_L0_t _ _ _ _) (by
   have hi2 : i < ln .bool b := by omega
   rw [qdq hi, qdq hi2]
   refine qah (fun _ => ?_) fun h => absurd (Int.ofNat_lt.2 hi) (of_decide_eq_false h)
   have hr : 0 ≤ (i : Int) ∧ (i : Int) < (ln .bool a : Int) := ⟨Int.natCast_nonneg _, Int.ofNat_lt.2 hi⟩
   refine ⟨hr, fun _ => ⟨by rw [← he]; exact hr, fun _ => ?_⟩⟩
   rw [Int.toNat_natCast, wrapS hi hl]
   have e : sameB (gd .bool a i :: a.drop (i + 1)) (gd .bool b i :: b.drop (i + 1)) = cond (!((bOf (gd .bool a i)) == (bOf (gd .bool b i)))) false (sameB (a.drop (i + 1)) (b.drop (i + 1))) := rfl
   rw [e]
   refine qah (fun h => ?_) fun h => ?_
   ·rw [h]; exact ⟨rfl, rfl⟩
   ·rw [h]; exact ih)
def k_r06_SameBools : Con := con [.d (.sl 1 .bool), .d (.sl 1 .bool)] .bool (fun x => True) fun x => qby x.1 x.2.1
theorem m_r06_SameBools (a : List (Den .bool)) (b : List (Den .bool)) (h_a : okD (.sl 1 .bool) a) (h_b : okD (.sl 1 .bool) b) (hp : True) : Runs E_B12 (start E_B12 qcd [(.tv (.sl 1 .bool) a), (.tv (.sl 1 .bool) b)]) (fun r_ h_ => r_ = (vb (qby a b)) ∧ h_ = []) := .tree qbt (r06_SameBools_t a b) (by
 unfold qby
 refine qah (fun h => ?_) fun h => ?_
 ·rw [h]; exact ⟨rfl, rfl⟩
 rw [h]
 have he : ln .bool a = ln .bool b := by
  have h : (ln .bool a : Int) = (ln .bool b : Int) := by simpa using h
  omega
 exact r06_same_l a b (qcf h_a.1) he 0 (Nat.zero_le _))
theorem c_r06_SameBools : qas E_B12 qcd k_r06_SameBools.spec := qbg fun x hx hp => ⟨rfl, m_r06_SameBools x.1 x.2.1 hx.1 hx.2.1 hp⟩
theorem smB_i {Q : AV → Heap → Prop} (f : Fn) (bs : List (Den qab)) (t10 t11 : Int) (l : List (Den qaf)) (hl : ln qaf l < 9223372036854775807) : ∀ i, i ≤ ln qaf l → ∀ n : Int, Runs E_B12 (qeb f (insN (l.drop i) n) bs t10 (IntKind.wrap .i64 (t11 + 1))) Q → Runs E_B12 (law21_small_L2 f n bs t10 t11 l (ln qaf l : Nat) i) Q :=
 qcl (fun n hq => .tree qbt (law21_small_L2_t _ _ _ _ _ _ _ _) (by
  rw [drop_ln] at hq
  refine qah (fun h => absurd (of_decide_eq_true h) (Int.lt_irrefl _)) fun _ => ?_
  exact hq))
  fun i hi ih n hq => .tree qbt (law21_small_L2_t _ _ _ _ _ _ _ _) (by
   rw [qdq hi] at hq
   refine qah (fun _ => ⟨⟨Int.natCast_nonneg _, Int.ofNat_lt.2 hi⟩, fun _ => ⟨by decide, fun _ => ?_⟩⟩) fun h => absurd (Int.ofNat_lt.2 hi) (of_decide_eq_false h)
   rw [Int.toNat_natCast, wrapS hi hl]
   exact ih _ hq)
theorem smB_b (f : Fn) (hf : okB (qat f)) : ∀ i, i ≤ nB f → ∀ n : Int, Runs E_B12 (qeb f n (qat f) (nB f : Nat) i) (fun x h => x = vb (decide (blN ((qat f).drop i) n ≤ (150 : Int)) && (decide ((nR f : Int) ≤ (120 : Int)) && decide ((nB f : Int) ≤ (40 : Int)))) ∧ h = []) :=
 qcl (fun n => .tree qbt (law21_small_L0_t _ _ _ _ _) (by
  rw [show (qat f).drop (nB f) = [] from drop_ln]
  refine qah (fun h => absurd (of_decide_eq_true h) (Int.lt_irrefl _)) fun _ => ?_
  refine qah (fun h => ?_) fun h => ?_
  ·rw [show decide (blN [] n ≤ (150 : Int)) = true from h, Bool.true_and]
   refine qah (fun h => ?_) fun h => ?_
   ·rw [show decide ((nR f : Int) ≤ (120 : Int)) = true from h, Bool.true_and]
    exact ⟨rfl, rfl⟩
   ·rw [show decide ((nR f : Int) ≤ (120 : Int)) = false from h, Bool.false_and]
    exact ⟨rfl, rfl⟩
  ·rw [show decide (blN [] n ≤ (150 : Int)) = false from h, Bool.false_and]
   exact ⟨rfl, rfl⟩))
  fun i hi ih n => .tree qbt (law21_small_L0_t _ _ _ _ _) (by
   have hi : i < ln qab (qat f) := hi
   rw [qdq hi]
   refine qah (fun _ => ⟨⟨Int.natCast_nonneg _, Int.ofNat_lt.2 hi⟩, fun _ => ?_⟩) fun h => absurd (Int.ofNat_lt.2 hi) (of_decide_eq_false h)
   rw [Int.toNat_natCast]
   have hr : ln qaf (gd qab (qat f) i).2.1 < 9223372036854775807 := qcf (hf.2 i hi).2.1.1
   refine smB_i f (qat f) _ (i : Int) _ hr 0 (Nat.zero_le _) _ ?_
   rw [wrapS hi (qcf hf.1)]
   exact ih _)
def k_law21_small : Con := con [.d qad] .bool (fun x => True) fun x => smallB x.1
theorem m_law21_small (f : Den qad) (h_f : okD qad f) (hp : True) : Runs E_B12 (start E_B12 qcb [(.tv qad f)]) (fun r_ h_ => r_ = (vb (smallB f)) ∧ h_ = []) := .tree qbt (law21_small_t f) (by
 exact smB_b f (okB_of h_f) 0 (Nat.zero_le _) 0)
theorem c_law21_small : qas E_B12 qcb k_law21_small.spec := qbg fun x hx hp => ⟨rfl, m_law21_small x.1 hx.1 hp⟩
theorem In_l (f : Fn) (hr : nR f ≤ 65536) (hb : room 136 (nB f)) : ∀ i, i ≤ nB f → Runs E_B12 (liveness_In_L0 f (qbm f) (nB f : Nat) i (mapN i (fun b => flagsF (gd (.ptr qaa) (anF f) b) (nR f : Int)))) (fun x h => x = .tv (.sl 24 (.sl 1 .bool)) (InF f) ∧ h = []) :=
 qcl (.tree qbt (liveness_In_L0_t _ _ _ _ _) (by
  refine qah (fun h => absurd (of_decide_eq_true h) (Int.lt_irrefl _)) fun _ => ?_
  exact ⟨rfl, rfl⟩))
  fun i hi ih => .tree qbt (liveness_In_L0_t _ _ _ _ _) (by
   have hl : ln (.ptr qaa) (anF f) = nB f := (wa_an hr).len
   refine qah (fun _ => ⟨rfl, fun _ => ⟨⟨Int.natCast_nonneg _, ?_⟩, fun _ => ?_⟩⟩) fun h => absurd (Int.ofNat_lt.2 hi) (of_decide_eq_false h)
   ·show (i : Int) < (ln (.ptr qaa) (anF f) : Int)
    omega
   rw [Int.toNat_natCast]
   refine ⟨an_set hr hi, fun _ => ⟨?_, fun _ _ => ?_⟩⟩
   ·have h1 := hb.1
    have e : ln (.sl 1 .bool) (mapN i (fun b => flagsF (gd (.ptr qaa) (anF f) b) (nR f : Int))) = i := qdg _ _
    rw [e]
    omega
   ·rw [wrapS hi (qcf hb)]
    rw [mapN_succ] at ih
    exact ih)
def k_liveness_In : Con := con [.d qad] (.sl 24 (.sl 1 .bool)) (fun x => qan x.1 ∧ nR x.1 ≤ 65536) fun x => InF x.1
theorem m_liveness_In (f : Den qad) (h_f : okD qad f) (hp : qan f ∧ nR f ≤ 65536) : Runs E_B12 (start E_B12 qcv [(.tv qad f)]) (fun r_ h_ => r_ = (.tv (.sl 24 (.sl 1 .bool)) (InF f)) ∧ h_ = []) := .tree qbt (liveness_In_t f) (by
 obtain ⟨hsm, hr⟩ := hp
 exact ⟨⟨hsm, hr⟩, fun _ _ => In_l f hr (okB_of h_f).1 0 (Nat.zero_le _)⟩)
theorem c_liveness_In : qas E_B12 qcv k_liveness_In.spec := qbg fun x hx hp => ⟨rfl, m_liveness_In x.1 hx.1 hp⟩
theorem Out_l (f : Fn) (hr : nR f ≤ 65536) (hb : room 136 (nB f)) : ∀ i, i ≤ nB f → Runs E_B12 (liveness_Out_L0 f (qbm f) (nB f : Nat) i (mapN i (fun b => flagsF (some (outS (aOf f (anF f)) (b : Int))) (nR f : Int)))) (fun x h => x = .tv (.sl 24 (.sl 1 .bool)) (OutF f) ∧ h = []) :=
 qcl (.tree qbt (liveness_Out_L0_t _ _ _ _ _) (by
  refine qah (fun h => absurd (of_decide_eq_true h) (Int.lt_irrefl _)) fun _ => ?_
  exact ⟨rfl, rfl⟩))
  fun i hi ih => .tree qbt (liveness_Out_L0_t _ _ _ _ _) (by
   have hw := (wa_an hr).outS (i : Int)
   refine qah (fun _ => ⟨rfl, fun _ => ⟨⟨wa_an hr, Int.natCast_nonneg _, Int.ofNat_lt.2 hi⟩, fun _ => ⟨⟨⟨_, rfl, hw.1⟩, hw.2.symm⟩, fun _ => ⟨?_, fun _ _ _ => ?_⟩⟩⟩⟩) fun h => absurd (Int.ofNat_lt.2 hi) (of_decide_eq_false h)
   ·have h1 := hb.1
    have e : ln (.sl 1 .bool) (mapN i (fun b => flagsF (some (outS (aOf f (anF f)) (b : Int))) (nR f : Int))) = i := qdg _ _
    rw [e]
    omega
   ·rw [wrapS hi (qcf hb)]
    rw [mapN_succ] at ih
    exact ih)
def k_liveness_Out : Con := con [.d qad] (.sl 24 (.sl 1 .bool)) (fun x => qan x.1 ∧ nR x.1 ≤ 65536) fun x => OutF x.1
theorem m_liveness_Out (f : Den qad) (h_f : okD qad f) (hp : qan f ∧ nR f ≤ 65536) : Runs E_B12 (start E_B12 qcj [(.tv qad f)]) (fun r_ h_ => r_ = (.tv (.sl 24 (.sl 1 .bool)) (OutF f)) ∧ h_ = []) := .tree qbt (liveness_Out_t f) (by
 obtain ⟨hsm, hr⟩ := hp
 exact ⟨⟨hsm, hr⟩, fun _ _ => Out_l f hr (okB_of h_f).1 0 (Nat.zero_le _)⟩)
theorem c_liveness_Out : qas E_B12 qcj k_liveness_Out.spec := qbg fun x hx hp => ⟨rfl, m_liveness_Out x.1 hx.1 hp⟩

def k_liveness_Before : Con := con [.d qad, .d qag] (.sl 1 .bool) (fun x => qan x.1 ∧ nR x.1 ≤ 65536) fun x => qbw x.1 x.2.1
theorem m_liveness_Before (f : Den qad) (at_ : Den qag) (h_f : okD qad f) (h_at_ : okD qag at_) (hp : qan f ∧ nR f ≤ 65536) : Runs E_B12 (start E_B12 qcp [(.tv qad f), (.tv qag at_)]) (fun r_ h_ => r_ = (.tv (.sl 1 .bool) (qbw f at_)) ∧ h_ = []) := .tree qbt (liveness_Before_t f at_) (by
 obtain ⟨hsm, hr⟩ := hp
 refine qah (fun h => ?_) fun h0 => qah (fun h => ?_) fun h1 => qah (fun h => ?_) fun h2 => ?_
 ·have h := of_decide_eq_true h
  have e : posB f (z at_.1) (z at_.2.1) = false := by unfold posB; rw [decide_eq_false (by omega), Bool.false_and]
  unfold qbw
  rw [e]
  exact ⟨rfl, rfl⟩
 ·have h : z at_.1 ≥ (nB f : Int) := of_decide_eq_true h
  have e : posB f (z at_.1) (z at_.2.1) = false := by unfold posB; rw [decide_eq_false (p := z at_.1 < (nB f : Int)) (by omega), Bool.false_and, Bool.and_false]
  unfold qbw
  rw [e]
  exact ⟨rfl, rfl⟩
 ·have h := of_decide_eq_true h
  have e : posB f (z at_.1) (z at_.2.1) = false := by unfold posB; rw [decide_eq_false (p := -1 ≤ z at_.2.1) (by omega), Bool.false_and, Bool.and_false, Bool.and_false]
  unfold qbw
  rw [e]
  exact ⟨rfl, rfl⟩
 have h0 := of_decide_eq_false h0
 have h1 : ¬ z at_.1 ≥ (nB f : Int) := of_decide_eq_false h1
 have h2 := of_decide_eq_false h2
 have hb : 0 ≤ z at_.1 ∧ z at_.1 < (nB f : Int) := ⟨by omega, by omega⟩
 refine ⟨hb, fun _ => qah (fun h => ?_) fun h3 => ?_⟩
 ·have h : z at_.2.1 > nIns f (z at_.1) := of_decide_eq_true h
  have e : posB f (z at_.1) (z at_.2.1) = false := by unfold posB; rw [decide_eq_false (p := z at_.2.1 ≤ nIns f (z at_.1)) (by omega), Bool.and_false, Bool.and_false, Bool.and_false]
  unfold qbw
  rw [e]
  exact ⟨rfl, rfl⟩
 have h3 : ¬ z at_.2.1 > nIns f (z at_.1) := of_decide_eq_false h3
 have e : posB f (z at_.1) (z at_.2.1) = true := by
  unfold posB
  rw [decide_eq_true (by omega), decide_eq_true hb.2, decide_eq_true (by omega), decide_eq_true (by omega)]
  rfl
 have ho := (wa_an hr).outS (z at_.1)
 have hk := wa_back (wa_an hr) (z at_.1) (z at_.2.1)
 refine ⟨⟨hsm, hr⟩, fun _ _ => ⟨rfl, fun _ => ⟨⟨wa_an hr, hb⟩, fun _ => ⟨rfl, fun _ => ⟨⟨hsm, ho.1, hb, by show -1 ≤ z at_.2.1; omega, by show z at_.2.1 ≤ nIns f (z at_.1); omega⟩, fun _ => ⟨⟨⟨_, rfl, hk.1⟩, hk.2.symm⟩, fun _ _ _ _ => ?_⟩⟩⟩⟩⟩⟩
 unfold qbw
 rw [e]
 exact ⟨rfl, rfl⟩)
theorem c_liveness_Before : qas E_B12 qcp k_liveness_Before.spec := qbg fun x hx hp => ⟨rfl, m_liveness_Before x.1 x.2.1 hx.1 hx.2.1 hp⟩
def L_B12 : List (FuncId × FSpec) := [(f_r21_in, k_r21_in.spec), (qei, k_law21_has.spec), (qcd, k_r06_SameBools.spec), (qcb, k_law21_small.spec), (qcv, k_liveness_In.spec), (qcj, k_liveness_Out.spec), (qcp, k_liveness_Before.spec)] ++ L_B11
theorem L_B12_ok : ∀ x ∈ L_B12, qas (ctx []) x.1 x.2 := by
 unfold L_B12
 simp only [List.cons_append, List.nil_append, List.forall_mem_cons]
 exact ⟨c_r21_in, c_law21_has, c_r06_SameBools, c_law21_small, c_liveness_In, c_liveness_Out, c_liveness_Before, L_B11_ok⟩
def LI_B12 : List IoT := [] ++ LI_B11
theorem LI_B12_ok : ∀ x ∈ LI_B12, qbn (ctx []) x.1 x.2.1 x.2.2 := by
 unfold LI_B12
 simp only [List.cons_append, List.nil_append, List.forall_mem_cons]
 exact LI_B11_ok
end Burn.M21
namespace Burn.M21
open Go Go.BE Go.Proofs
set_option maxRecDepth 100000
set_option linter.unusedVariables false
set_option linter.unusedSimpArgs false
open Burn.Cfg
open Burn.Bit
noncomputable abbrev E_B13 : Ctx := ctx L_B12 LI_B12
theorem E_B13_ok : EOK E_B13 := ctx_ok L_B12_ok LI_B12_ok
def cuts_B13 : CutL := [([], 7, 0, [0, 1, 12, 13], [], []),
 ([], 23, 0, [2, 3, 7, 21, 22, 23], [], []),
 ([], 23, 2, [2, 3, 7, 9, 21, 22, 23, 39, 40], [], []),
 ([], 29, 0, [2, 7, 8, 9, 22, 23], [], [])]
def rets_B13 : FuncId → List (Option Fx)
 | 23 => [some (.own 1 .bool)]
 | 29 => [some (.own 1 .bool)]
 | _ => []
def H_B13 : Hints := { cut := cutOf cuts_B13, ret := rets_B13 }
noncomputable def qeg (after : List (Den .bool)) (reads : List (Den I)) (writes : List (Den I)) (t22 : Int) (t23 : Int) (out : List (Den .bool)) : Cfg := hcfg E_B13 f_r21_back 0 [(2, (.tv (.sl 1 .bool) after)), (7, (.osl 0 0 [] none)), (8, (.tv (.sl 8 I) reads)), (9, (.tv (.sl 8 I) writes)), (22, (vi t22)), (23, (vi t23))] [(0, ⟨(.arr 0 1 .bool out), 0, [], false, none⟩)] 1
theorem r21_back_t (f : Den qad) (at_ : Den qag) (after : List (Den .bool)) : run E_B13 H_B13 f_r21_back 3000 (start E_B13 f_r21_back [(.tv qad f), (.tv qag at_), (.tv (.sl 1 .bool) after)]) = (.chk (((ln I f.2.2.2.1) : Int) = ((ln I f.2.2.2.1) : Int)) (.chk (0 ≤ ((ln I f.2.2.2.1) : Int)) (.chk ((ln I f.2.2.2.1) * 1 ≤ roomB) (.chk (qan f) (.chk (qan f) (.know (okD (.sl 8 I) (qdz f at_)) (.know (okD (.sl 8 I) (qct f at_)) (hd (qeg after (qdz f at_) (qct f at_) ((ln .bool (List.replicate (ln I f.2.2.2.1) (dz .bool))) : Int) (0 : Int) (List.replicate (ln I f.2.2.2.1) (dz .bool))))))))))) := by kernel_rfl
theorem r21_back_L0_t (after : List (Den .bool)) (reads : List (Den I)) (writes : List (Den I)) (t22 : Int) (t23 : Int) (out : List (Den .bool)) : run E_B13 H_B13 f_r21_back 3000 (qeg after reads writes t22 t23 out) = (cond (decide (t23 < t22)) (.chk (True) (.know True (cond (inL reads t23) (.chk (0 ≤ t23 ∧ t23 < (ln .bool out)) (.chk (t23.toNat < (ln .bool out)) (hd (qeg after reads writes t22 (IntKind.wrap .i64 (t23 + (1 : Int))) (st .bool out t23.toNat true))))) (.chk (0 ≤ t23 ∧ t23 < (ln .bool after)) (cond (bOf (gd .bool after t23.toNat)) (.chk (True) (.know True (.chk (0 ≤ t23 ∧ t23 < (ln .bool out)) (.chk (t23.toNat < (ln .bool out)) (hd (qeg after reads writes t22 (IntKind.wrap .i64 (t23 + (1 : Int))) (st .bool out t23.toNat (!(inL writes t23))))))))) (.chk (0 ≤ t23 ∧ t23 < (ln .bool out)) (.chk (t23.toNat < (ln .bool out)) (hd (qeg after reads writes t22 (IntKind.wrap .i64 (t23 + (1 : Int))) (st .bool out t23.toNat false)))))))))) (rt (.osl 0 0 [] none) [(0, ⟨(.arr 0 1 .bool out), 0, [], false, none⟩)])) := by kernel_rfl
noncomputable def r21_out_L0 (live : List (Den (.sl 1 .bool))) (f : Den qad) (t21 : List (Den qae)) (t22 : Int) (t23 : Int) (l : List (Den .bool)) : Cfg := hcfg E_B13 f_r21_out 0 [(2, (.tv (.sl 24 (.sl 1 .bool)) live)), (3, (.rtp qad f)), (7, (.osl 0 0 [] none)), (21, (.tv (.sl 32 qae) t21)), (22, (vi t22)), (23, (vi t23))] [(0, ⟨(.arr 0 1 .bool l), 0, [], false, none⟩)] 1
noncomputable def r21_out_L2 (live : List (Den (.sl 1 .bool))) (f : Den qad) (t21 : List (Den qae)) (t22 : Int) (t23 : Int) (t39 : Int) (t40 : Int) (l : List (Den .bool)) (e_0 : Int) (e_1 : List (Den I)) : Cfg := hcfg E_B13 f_r21_out 2 [(2, (.tv (.sl 24 (.sl 1 .bool)) live)), (3, (.rtp qad f)), (7, (.osl 0 0 [] none)), (9, (.ref 1 0)), (21, (.tv (.sl 32 qae) t21)), (22, (vi t22)), (23, (vi t23)), (39, (vi t39)), (40, (vi t40))] [(0, ⟨(.arr 0 1 .bool l), 0, [], false, none⟩), (1, ⟨(.cells [(vi e_0), (.tv (.sl 8 I) e_1)]), 1, [], false, none⟩)] 2
theorem r21_out_t (f : Den qad) (b : Int) (live : List (Den (.sl 1 .bool))) : run E_B13 H_B13 f_r21_out 3000 (start E_B13 f_r21_out [(.tv qad f), (vi b), (.tv (.sl 24 (.sl 1 .bool)) live)]) = (.chk (((ln I f.2.2.2.1) : Int) = ((ln I f.2.2.2.1) : Int)) (.chk (0 ≤ ((ln I f.2.2.2.1) : Int)) (.chk ((ln I f.2.2.2.1) * 1 ≤ roomB) (.chk (0 ≤ b ∧ b < (ln qab f.2.2.2.2.1)) (hd (r21_out_L0 live f ((gd qab f.2.2.2.2.1 b.toNat).2.2.1.2.2.2.1) ((ln qae ((gd qab f.2.2.2.2.1 b.toNat).2.2.1.2.2.2.1)) : Int) (0 : Int) (List.replicate (ln I f.2.2.2.1) (dz .bool)))))))) := by kernel_rfl
theorem r21_out_L0_t (live : List (Den (.sl 1 .bool))) (f : Den qad) (t21 : List (Den qae)) (t22 : Int) (t23 : Int) (l : List (Den .bool)) : run E_B13 H_B13 f_r21_out 3000 (r21_out_L0 live f t21 t22 t23 l) = (cond (decide (t23 < t22)) (.chk (0 ≤ t23 ∧ t23 < (ln qae t21)) (cond (decide ((z ((gd qae t21 t23.toNat).1)) < (0 : Int))) (hd (r21_out_L0 live f t21 t22 (IntKind.wrap .i64 (t23 + (1 : Int))) l)) (cond (decide ((z ((gd qae t21 t23.toNat).1)) ≥ ((ln qab f.2.2.2.2.1) : Int))) (hd (r21_out_L0 live f t21 t22 (IntKind.wrap .i64 (t23 + (1 : Int))) l)) (hd (r21_out_L2 live f t21 t22 t23 ((ln .bool l) : Int) (0 : Int) l (z ((gd qae t21 t23.toNat).1)) ((gd qae t21 t23.toNat).2.1)))))) (rt (.osl 0 0 [] none) [(0, ⟨(.arr 0 1 .bool l), 0, [], false, none⟩)])) := by kernel_rfl
theorem r21_out_L2_t (live : List (Den (.sl 1 .bool))) (f : Den qad) (t21 : List (Den qae)) (t22 : Int) (t23 : Int) (t39 : Int) (t40 : Int) (l : List (Den .bool)) (e_0 : Int) (e_1 : List (Den I)) : run E_B13 H_B13 f_r21_out 3000 (r21_out_L2 live f t21 t22 t23 t39 t40 l e_0 e_1) = (cond (decide (t40 < t39)) (.chk (0 ≤ t40 ∧ t40 < (ln .bool l)) (.chk (t40.toNat < (ln .bool l)) (cond (bOf (gd .bool l t40.toNat)) (.chk (0 ≤ t40 ∧ t40 < (ln .bool l)) (.chk (t40.toNat < (ln .bool l)) (hd (r21_out_L2 live f t21 t22 t23 t39 (IntKind.wrap .i64 (t40 + (1 : Int))) (st .bool l t40.toNat true) e_0 e_1)))) (.chk (0 ≤ e_0 ∧ e_0 < (ln (.sl 1 .bool) live)) (.chk (0 ≤ t40 ∧ t40 < (ln .bool (gd (.sl 1 .bool) live e_0.toNat))) (.chk (0 ≤ t40 ∧ t40 < (ln .bool l)) (.chk (t40.toNat < (ln .bool l)) (hd (r21_out_L2 live f t21 t22 t23 t39 (IntKind.wrap .i64 (t40 + (1 : Int))) (st .bool l t40.toNat (gd .bool (gd (.sl 1 .bool) live e_0.toNat) t40.toNat)) e_0 e_1))))))))) (hd (r21_out_L0 live f t21 t22 (IntKind.wrap .i64 (t23 + (1 : Int))) l))) := by kernel_rfl
noncomputable def law21_same_L0 (a : List (Den (.sl 1 .bool))) (b : List (Den (.sl 1 .bool))) (t12 : Int) (t13 : Int) : Cfg := hcfg E_B13 qdp 0 [(0, (.tv (.sl 24 (.sl 1 .bool)) a)), (1, (.tv (.sl 24 (.sl 1 .bool)) b)), (12, (vi t12)), (13, (vi t13))] [] 0
theorem law21_same_t (a : List (Den (.sl 1 .bool))) (b : List (Den (.sl 1 .bool))) : run E_B13 H_B13 qdp 3000 (start E_B13 qdp [(.tv (.sl 24 (.sl 1 .bool)) a), (.tv (.sl 24 (.sl 1 .bool)) b)]) = (cond (((ln (.sl 1 .bool) a) : Int) != ((ln (.sl 1 .bool) b) : Int)) (rt (vb false) []) (hd (law21_same_L0 a b ((ln (.sl 1 .bool) a) : Int) (0 : Int)))) := by kernel_rfl
theorem law21_same_L0_t (a : List (Den (.sl 1 .bool))) (b : List (Den (.sl 1 .bool))) (t12 : Int) (t13 : Int) : run E_B13 H_B13 qdp 3000 (law21_same_L0 a b t12 t13) = (cond (decide (t13 < t12)) (.chk (0 ≤ t13 ∧ t13 < (ln (.sl 1 .bool) a)) (.chk (0 ≤ t13 ∧ t13 < (ln (.sl 1 .bool) b)) (.chk (True) (.know True (cond (!(qby (gd (.sl 1 .bool) a t13.toNat) (gd (.sl 1 .bool) b t13.toNat))) (rt (vb false) []) (hd (law21_same_L0 a b t12 (IntKind.wrap .i64 (t13 + (1 : Int)))))))))) (rt (vb true) [])) := by kernel_rfl
abbrev BL := List (Den .bool)
abbrev BLL := List (Den (.sl 1 .bool))
def gb (l : BL) (r : Nat) : Bool := gd .bool l r
def mR (live : BLL) (b r : Nat) : Bool := gb (gd (.sl 1 .bool) live b) r
def stepP (f : Fn) (p : Den qag) (P : Nat → Bool) (r : Nat) : Bool := inL (qdz f p) (r : Int) || (P r && !inL (qct f p) (r : Int))
def outQ (f : Fn) (b : Int) (M : Nat → Nat → Bool) (r : Nat) : Bool := List.any (tSuc (blk f b)) (fun e => inB f e && M (z e.1).toNat r)
def backP (f : Fn) (b : Int) : Nat → Int → (Nat → Bool) → Nat → Bool
 | 0, _, P => P
 | n + 1, i, P => backP f b n (i - 1) (stepP f (b, i, ()) P)
def TP (f : Fn) (M : Nat → Nat → Bool) (b i : Int) : Nat → Bool := backP f b (nIns f b - i + 1).toNat (nIns f b) (outQ f b M)
def rBack (f : Fn) (p : Den qag) (after : BL) : BL := outP (nR f) (stepP f p (gb after))
def rOut (f : Fn) (b : Int) (live : BLL) : BL := outP (nR f) (outQ f b (mR live))
structure WL (f : Fn) (live : BLL) : Prop where
 n : nR f ≤ 65536
 len : ln (.sl 1 .bool) live = nB f
 row : ∀ i, i < nB f → ln .bool (gd (.sl 1 .bool) live i) = nR f
def sameLL : BLL → BLL → Bool
 | [], _ => true
 | x :: l, m => cond (!(qby x (gd (.sl 1 .bool) m 0))) false (sameLL l (List.drop 1 m))
def sameF (a b : BLL) : Bool := cond ((ln (.sl 1 .bool) a : Int) != (ln (.sl 1 .bool) b : Int)) false (sameLL a b)
theorem rb_l (f : Fn) (p : Den qag) (after : BL) (hn : nR f ≤ 65536) (ha : ln .bool after = nR f) : ∀ k, k ≤ nR f → Runs E_B13 (qeg after (qdz f p) (qct f p) (nR f : Nat) k (outP (nR f) (mixP k (stepP f p (gb after)) (fun _ => false)))) (fun r_ h_ => r_ = (ownRes 99 (.sl 1 .bool) (rBack f p after)).1 ∧ h_ = (ownRes 99 (.sl 1 .bool) (rBack f p after)).2) :=
 qcl (.tree E_B13_ok (r21_back_L0_t _ _ _ _ _ _) (by
  refine qah (fun h => absurd (of_decide_eq_true h) (Int.lt_irrefl _)) fun _ => ?_
  rw [mix_all]
  exact ⟨rfl, rfl⟩))
  fun k hk ih => .tree E_B13_ok (r21_back_L0_t _ _ _ _ _ _) (by
   have el : ln .bool (outP (nR f) (mixP k (stepP f p (gb after)) (fun _ => false))) = nR f := qck _ _
   have hr : 0 ≤ (k : Int) ∧ (k : Int) < (nR f : Int) := ⟨Int.natCast_nonneg _, Int.ofNat_lt.2 hk⟩
   refine qah (fun _ => ⟨trivial, fun _ _ => ?_⟩) fun h => absurd (Int.ofNat_lt.2 hk) (of_decide_eq_false h)
   rw [el, Int.toNat_natCast, wrapS hk (by omega)]
   have fin : ∀ v : Bool, v = stepP f p (gb after) k → Runs E_B13 (qeg after (qdz f p) (qct f p) (nR f : Nat) (k + 1 : Nat) (st .bool (outP (nR f) (mixP k (stepP f p (gb after)) (fun _ => false))) k v)) (fun r_ h_ => r_ = (ownRes 99 (.sl 1 .bool) (rBack f p after)).1 ∧ h_ = (ownRes 99 (.sl 1 .bool) (rBack f p after)).2) := fun v hv => by
    rw [show st .bool (outP (nR f) (mixP k (stepP f p (gb after)) (fun _ => false))) k v = _ from mix_set hv]
    exact ih
   refine qah (fun h => ?_) fun h => ?_
   ·refine ⟨hr, fun _ => ⟨hk, fun _ => fin true ?_⟩⟩
    unfold stepP
    rw [h]; rfl
   refine ⟨by rw [ha]; exact hr, fun _ => qah (fun h2 => ?_) fun h2 => ?_⟩
   ·refine ⟨trivial, fun _ _ => ⟨hr, fun _ => ⟨hk, fun _ => fin _ ?_⟩⟩⟩
    unfold stepP
    rw [h, show gb after k = true from h2]; rfl
   ·refine ⟨hr, fun _ => ⟨hk, fun _ => fin false ?_⟩⟩
    unfold stepP
    rw [h, show gb after k = false from h2]; rfl)
def k_r21_back : Con := conO 99 [.d qad, .d qag, .d (.sl 1 .bool)] (.sl 1 .bool) (fun x => qan x.1 ∧ nR x.1 ≤ 65536 ∧ ln .bool x.2.2.1 = nR x.1) fun x => rBack x.1 x.2.1 x.2.2.1
theorem m_r21_back (f : Den qad) (at_ : Den qag) (after : List (Den .bool)) (h_f : okD qad f) (h_at_ : okD qag at_) (h_after : okD (.sl 1 .bool) after) (hp : qan f ∧ nR f ≤ 65536 ∧ ln .bool after = nR f) : Runs E_B13 (start E_B13 f_r21_back [(.tv qad f), (.tv qag at_), (.tv (.sl 1 .bool) after)]) (fun r_ h_ => r_ = (ownRes 99 (.sl 1 .bool) (rBack f at_ after)).1 ∧ h_ = (ownRes 99 (.sl 1 .bool) (rBack f at_ after)).2) := .tree E_B13_ok (r21_back_t f at_ after) (by
 obtain ⟨hsm, hn, ha⟩ := hp
 have hn' : ln I f.2.2.2.1 ≤ 65536 := hn
 refine ⟨rfl, fun _ => ⟨Int.natCast_nonneg _, fun _ => ⟨?_, fun _ => ⟨hsm, fun _ => ⟨hsm, fun _ _ _ => ?_⟩⟩⟩⟩⟩
 ·simp only [roomB]
  omega
 have h0 := rb_l f at_ after hn ha 0 (Nat.zero_le _)
 rw [mix_zero, ← outP_false] at h0
 have e : ln .bool (List.replicate (ln I f.2.2.2.1) (dz .bool)) = nR f := List.length_replicate
 rw [e]
 exact h0)
theorem c_r21_back : qas E_B13 f_r21_back k_r21_back.spec := qbg fun x hx hp => ⟨rfl, m_r21_back x.1 x.2.1 x.2.2.1 hx.1 hx.2.1 hx.2.2.1 hp⟩
theorem ro_in {Q : AV → Heap → Prop} (f : Fn) (live : BLL) (hl : WL f live) (es : List (Den qae)) (t22 t23 : Int) (e0 : Int) (e1 : List (Den I)) (h0 : 0 ≤ e0 ∧ e0 < (nB f : Int)) (p : Nat → Bool)
  (next : Runs E_B13 (r21_out_L0 live f es t22 (IntKind.wrap .i64 (t23 + (1 : Int))) (outP (nR f) (fun r => p r || mR live e0.toNat r))) Q) : ∀ k, k ≤ nR f → Runs E_B13 (r21_out_L2 live f es t22 t23 (nR f : Nat) k (outP (nR f) (mixP k (fun r => p r || mR live e0.toNat r) p)) e0 e1) Q :=
 qcl (.tree E_B13_ok (r21_out_L2_t _ _ _ _ _ _ _ _ _ _) (by
  refine qah (fun h => absurd (of_decide_eq_true h) (Int.lt_irrefl _)) fun _ => ?_
  rw [mix_all]
  exact next))
  fun k hk ih => .tree E_B13_ok (r21_out_L2_t _ _ _ _ _ _ _ _ _ _) (by
   have hn := hl.n
   have el : ln .bool (outP (nR f) (mixP k (fun r => p r || mR live e0.toNat r) p)) = nR f := qck _ _
   have eg : gd .bool (outP (nR f) (mixP k (fun r => p r || mR live e0.toNat r) p)) k = p k := mix_get hk _
   have hr : 0 ≤ (k : Int) ∧ (k : Int) < (nR f : Int) := ⟨Int.natCast_nonneg _, Int.ofNat_lt.2 hk⟩
   refine qah (fun _ => ?_) fun h => absurd (Int.ofNat_lt.2 hk) (of_decide_eq_false h)
   rw [el, Int.toNat_natCast, wrapS hk (by omega), eg]
   have fin : ∀ v : Bool, v = (p k || mR live e0.toNat k) → Runs E_B13 (r21_out_L2 live f es t22 t23 (nR f : Nat) (k + 1 : Nat) (st .bool (outP (nR f) (mixP k (fun r => p r || mR live e0.toNat r) p)) k v) e0 e1) Q := fun v hv => by
    rw [show st .bool (outP (nR f) (mixP k (fun r => p r || mR live e0.toNat r) p)) k v = _ from mix_set hv]
    exact ih
   refine ⟨hr, fun _ => ⟨hk, fun _ => qah (fun h => ?_) fun h => ?_⟩⟩
   ·have h : p k = true := h
    refine ⟨hr, fun _ => ⟨hk, fun _ => fin true ?_⟩⟩
    rw [h]; rfl
   ·have h : p k = false := h
    have hrow := hl.row e0.toNat (by omega)
    refine ⟨?_, fun _ => ⟨?_, fun _ => ⟨hr, fun _ => ⟨hk, fun _ => fin _ ?_⟩⟩⟩⟩
    ·rw [hl.len]; exact h0
    ·rw [hrow]; exact hr
    ·rw [h]; rfl)
theorem ro_l (f : Fn) (live : BLL) (hl : WL f live) (es : List (Den qae)) (hr : room 32 (ln qae es)) : ∀ k, k ≤ ln qae es → ∀ p : Nat → Bool, Runs E_B13 (r21_out_L0 live f es (ln qae es : Nat) k (outP (nR f) p)) (fun r_ h_ => r_ = (ownRes 99 (.sl 1 .bool) (outP (nR f) (fun r => p r || List.any (es.drop k) (fun e => inB f e && mR live (z e.1).toNat r)))).1 ∧ h_ = (ownRes 99 (.sl 1 .bool) (outP (nR f) (fun r => p r || List.any (es.drop k) (fun e => inB f e && mR live (z e.1).toNat r)))).2) :=
 qcl (fun p => .tree E_B13_ok (r21_out_L0_t _ _ _ _ _ _) (by
  refine qah (fun h => absurd (of_decide_eq_true h) (Int.lt_irrefl _)) fun _ => ?_
  have e : (fun r => p r || List.any (es.drop (ln qae es)) (fun e => inB f e && mR live (z e.1).toNat r)) = p := by
   funext r
   rw [drop_ln, List.any_nil, Bool.or_false]
  rw [e]
  exact ⟨rfl, rfl⟩))
  fun k hk ih p => .tree E_B13_ok (r21_out_L0_t _ _ _ _ _ _) (by
   refine qah (fun _ => ⟨⟨Int.natCast_nonneg _, Int.ofNat_lt.2 hk⟩, fun _ => ?_⟩) fun h => absurd (Int.ofNat_lt.2 hk) (of_decide_eq_false h)
   rw [Int.toNat_natCast]
   generalize hg : gd qae es k = e
   have ed : es.drop k = e :: es.drop (k + 1) := by rw [qdq hk, hg]
   rw [ed]
   have skip : inB f e = false → (fun r => p r || List.any (e :: es.drop (k + 1)) (fun e => inB f e && mR live (z e.1).toNat r)) = (fun r => p r || List.any (es.drop (k + 1)) (fun e => inB f e && mR live (z e.1).toNat r)) := fun h => by
    funext r
    rw [List.any_cons, h, Bool.false_and, Bool.false_or]
   refine qah (fun h1 => ?_) fun h1 => qah (fun h2 => ?_) fun h2 => ?_
   ·have h1 := of_decide_eq_true h1
    rw [skip (by unfold inB; rw [decide_eq_false (by omega), Bool.false_and]), wrapS hk (qcf hr)]
    exact ih p
   ·have h2 : z e.1 ≥ (nB f : Int) := of_decide_eq_true h2
    have hi : inB f e = false := by
     unfold inB
     rw [decide_eq_false (p := z e.1 < (ln qab (qat f) : Int)) (by show ¬ z e.1 < (nB f : Int); omega), Bool.and_false]
    rw [skip hi, wrapS hk (qcf hr)]
    exact ih p
   ·have h1 := of_decide_eq_false h1
    have h2 : ¬ z e.1 ≥ (nB f : Int) := of_decide_eq_false h2
    have hi : inB f e = true := by
     unfold inB
     rw [decide_eq_true (show z e.1 ≥ 0 by omega), decide_eq_true (show z e.1 < (ln qab (qat f) : Int) by show z e.1 < (nB f : Int); omega)]
     rfl
    have eq : (fun r => p r || List.any (e :: es.drop (k + 1)) (fun e => inB f e && mR live (z e.1).toNat r)) = (fun r => (p r || mR live (z e.1).toNat r) || List.any (es.drop (k + 1)) (fun e => inB f e && mR live (z e.1).toNat r)) := by
     funext r
     rw [List.any_cons, hi, Bool.true_and, Bool.or_assoc]
    rw [eq]
    have el : ln .bool (outP (nR f) p) = nR f := qck _ _
    rw [el]
    have := ro_in f live hl es (ln qae es : Nat) (k : Int) (z e.1) e.2.1 ⟨by omega, by omega⟩ p (by rw [wrapS hk (qcf hr)]; exact ih _) 0 (Nat.zero_le _)
    rw [mix_zero] at this
    exact this)
def k_r21_out : Con := conO 99 [.d qad, .d I, .d (.sl 24 (.sl 1 .bool))] (.sl 1 .bool) (fun x => WL x.1 x.2.2.1 ∧ 0 ≤ z x.2.1 ∧ z x.2.1 < (nB x.1 : Int)) fun x => rOut x.1 x.2.1 x.2.2.1
theorem m_r21_out (f : Den qad) (b : Int) (live : List (Den (.sl 1 .bool))) (h_f : okD qad f) (h_b : okD I b) (h_live : okD (.sl 24 (.sl 1 .bool)) live) (hp : WL f live ∧ 0 ≤ z b ∧ z b < (nB f : Int)) : Runs E_B13 (start E_B13 f_r21_out [(.tv qad f), (vi b), (.tv (.sl 24 (.sl 1 .bool)) live)]) (fun r_ h_ => r_ = (ownRes 99 (.sl 1 .bool) (rOut f b live)).1 ∧ h_ = (ownRes 99 (.sl 1 .bool) (rOut f b live)).2) := .tree E_B13_ok (r21_out_t f b live) (by
 obtain ⟨hl, h0, h1⟩ := hp
 have hn := hl.n
 have hn' : ln I f.2.2.2.1 ≤ 65536 := hn
 have hbn : (z b).toNat < ln qab (qat f) := by
  have : z b < (ln qab (qat f) : Int) := h1
  omega
 refine ⟨rfl, fun _ => ⟨Int.natCast_nonneg _, fun _ => ⟨?_, fun _ => ⟨⟨h0, h1⟩, fun _ => ?_⟩⟩⟩⟩
 ·simp only [roomB]
  omega
 have h := ro_l f live hl (tSuc (blk f b)) (okB_suc (okB_of h_f) hbn).1 0 (Nat.zero_le _) (fun _ => false)
 rw [← outP_false] at h
 have e : (fun r => false || List.any ((tSuc (blk f b)).drop 0) (fun e => inB f e && mR live (z e.1).toNat r)) = outQ f b (mR live) := by
  funext r
  rw [Bool.false_or, List.drop_zero]
  rfl
 rw [e] at h
 exact h)
theorem c_r21_out : qas E_B13 f_r21_out k_r21_out.spec := qbg fun x hx hp => ⟨rfl, m_r21_out x.1 x.2.1 x.2.2.1 hx.1 hx.2.1 hx.2.2.1 hp⟩
theorem law21_same_l (a b : BLL) (hl : ln (.sl 1 .bool) a < 9223372036854775807) (he : ln (.sl 1 .bool) a = ln (.sl 1 .bool) b) : ∀ i, i ≤ ln (.sl 1 .bool) a → Runs E_B13 (law21_same_L0 a b (ln (.sl 1 .bool) a : Nat) i) (fun x h => x = vb (sameLL (a.drop i) (b.drop i)) ∧ h = []) :=
 qcl (.tree E_B13_ok (law21_same_L0_t _ _ _ _) (by
  rw [drop_ln]
  refine qah (fun h => absurd (of_decide_eq_true h) (Int.lt_irrefl _)) fun _ => ?_
  exact ⟨rfl, rfl⟩))
  fun i hi ih => .tree E_B13_ok (law21_same_L0_t _ _ _ _) (by
   have hi2 : i < ln (.sl 1 .bool) b := by omega
   rw [qdq hi, qdq hi2]
   refine qah (fun _ => ?_) fun h => absurd (Int.ofNat_lt.2 hi) (of_decide_eq_false h)
   have hr : 0 ≤ (i : Int) ∧ (i : Int) < (ln (.sl 1 .bool) a : Int) := ⟨Int.natCast_nonneg _, Int.ofNat_lt.2 hi⟩
   refine ⟨hr, fun _ => ⟨by rw [← he]; exact hr, fun _ => ⟨trivial, fun _ _ => ?_⟩⟩⟩
   rw [Int.toNat_natCast, wrapS hi hl]
   have e : sameLL (gd (.sl 1 .bool) a i :: a.drop (i + 1)) (gd (.sl 1 .bool) b i :: b.drop (i + 1)) = cond (!(qby (gd (.sl 1 .bool) a i) (gd (.sl 1 .bool) b i))) false (sameLL (a.drop (i + 1)) (b.drop (i + 1))) := rfl
   rw [e]
   refine qah (fun h => ?_) fun h => ?_
   ·rw [h]; exact ⟨rfl, rfl⟩
   ·rw [h]; exact ih)
def k_law21_same : Con := con [.d (.sl 24 (.sl 1 .bool)), .d (.sl 24 (.sl 1 .bool))] .bool (fun x => True) fun x => sameF x.1 x.2.1
theorem m_law21_same (a : List (Den (.sl 1 .bool))) (b : List (Den (.sl 1 .bool))) (h_a : okD (.sl 24 (.sl 1 .bool)) a) (h_b : okD (.sl 24 (.sl 1 .bool)) b) (hp : True) : Runs E_B13 (start E_B13 qdp [(.tv (.sl 24 (.sl 1 .bool)) a), (.tv (.sl 24 (.sl 1 .bool)) b)]) (fun r_ h_ => r_ = (vb (sameF a b)) ∧ h_ = []) := .tree E_B13_ok (law21_same_t a b) (by
 unfold sameF
 refine qah (fun h => ?_) fun h => ?_
 ·rw [h]; exact ⟨rfl, rfl⟩
 rw [h]
 have he : ln (.sl 1 .bool) a = ln (.sl 1 .bool) b := by
  have h : (ln (.sl 1 .bool) a : Int) = (ln (.sl 1 .bool) b : Int) := by simpa using h
  omega
 exact law21_same_l a b (qcf h_a.1) he 0 (Nat.zero_le _))
theorem c_law21_same : qas E_B13 qdp k_law21_same.spec := qbg fun x hx hp => ⟨rfl, m_law21_same x.1 x.2.1 hx.1 hx.2.1 hp⟩
def L_B13 : List (FuncId × FSpec) := [(f_r21_back, k_r21_back.spec), (f_r21_out, k_r21_out.spec), (qdp, k_law21_same.spec)] ++ L_B12
theorem L_B13_ok : ∀ x ∈ L_B13, qas (ctx []) x.1 x.2 := by
 unfold L_B13
 simp only [List.cons_append, List.nil_append, List.forall_mem_cons]
 exact ⟨c_r21_back, c_r21_out, c_law21_same, L_B12_ok⟩
def LI_B13 : List IoT := [] ++ LI_B12
theorem LI_B13_ok : ∀ x ∈ LI_B13, qbn (ctx []) x.1 x.2.1 x.2.2 := by
 unfold LI_B13
 simp only [List.cons_append, List.nil_append, List.forall_mem_cons]
 exact LI_B12_ok
end Burn.M21
namespace Burn.M21
open Go Go.BE Go.Proofs
set_option maxRecDepth 100000
set_option linter.unusedVariables false
set_option linter.unusedSimpArgs false
open Burn.Cfg
open Burn.Bit
noncomputable abbrev E_B14 : Ctx := ctx L_B13 LI_B13
theorem E_B14_ok : EOK E_B14 := ctx_ok L_B13_ok LI_B13_ok
def cuts_B14 : CutL := [([], 21, 0, [1, 2, 4, 9, 10], [], [])]
def rets_B14 : FuncId → List (Option Fx)
 | 21 => [some (.own 1 .bool)]
 | _ => []
def H_B14 : Hints := { cut := cutOf cuts_B14, ret := rets_B14 }
noncomputable def r21_before_L0 (b : Int) (at_ : Int) (f : Den qad) (i : Int) (l : List (Den .bool)) : Cfg := hcfg E_B14 qdo 0 [(1, (vi b)), (2, (vi at_)), (4, (.rtp qad f)), (9, (.osl 0 0 [] none)), (10, (vi i))] [(0, ⟨(.arr 0 1 .bool l), 0, [], false, none⟩)] 1
theorem r21_before_t (f : Den qad) (b : Int) (at_ : Int) (live : List (Den (.sl 1 .bool))) : run E_B14 H_B14 qdo 3000 (start E_B14 qdo [(.tv qad f), (vi b), (vi at_), (.tv (.sl 24 (.sl 1 .bool)) live)]) = (.chk (WL f live ∧ 0 ≤ z b ∧ z b < (nB f : Int)) (.know True (.chk (0 ≤ b ∧ b < (ln qab f.2.2.2.2.1)) (hd (r21_before_L0 b at_ f ((ln qaf ((gd qab f.2.2.2.2.1 b.toNat).2.1)) : Int) (rOut f b live)))))) := by kernel_rfl
theorem r21_before_L0_t (b : Int) (at_ : Int) (f : Den qad) (i : Int) (l : List (Den .bool)) : run E_B14 H_B14 qdo 3000 (r21_before_L0 b at_ f i l) = (cond (decide (i ≥ at_)) (.chk (qan f ∧ nR f ≤ 65536 ∧ ln .bool l = nR f) (.know True (hd (r21_before_L0 b at_ f (IntKind.wrap .i64 (i - (1 : Int))) (rBack f (b, i, ()) l))))) (rt (.osl 0 0 [] none) [(0, ⟨(.arr 0 1 .bool l), 0, [], false, none⟩)])) := by kernel_rfl
theorem gb_out {n : Nat} {P : Nat → Bool} {r : Nat} (h : r < n) : gb (outP n P) r = P r := outP_get h _
theorem rBack_out (f : Fn) (p : Den qag) (P : Nat → Bool) : rBack f p (outP (nR f) P) = outP (nR f) (stepP f p P) := outP_ext fun r hr => by
 unfold stepP
 rw [gb_out hr]
def qci (f : Fn) (b i : Int) (live : BLL) : BL := outP (nR f) (TP f (mR live) b i)
theorem rbe_l (f : Fn) (hsm : qan f) (hn : nR f ≤ 65536) (b at_ : Int) (ha : -1 ≤ at_) : ∀ m (i : Int) (P : Nat → Bool), (i - at_ + 1).toNat = m → at_ - 1 ≤ i → i ≤ 9223372036854775000 → Runs E_B14 (r21_before_L0 b at_ f i (outP (nR f) P)) (fun r_ h_ => r_ = (ownRes 99 (.sl 1 .bool) (outP (nR f) (backP f b m i P))).1 ∧ h_ = (ownRes 99 (.sl 1 .bool) (outP (nR f) (backP f b m i P))).2)
 | 0, i, P, hm, h0, h1 => .tree E_B14_ok (r21_before_L0_t _ _ _ _ _) (by
  refine qah (fun h => absurd (of_decide_eq_true h) (by omega)) fun _ => ?_
  exact ⟨rfl, rfl⟩)
 | m + 1, i, P, hm, h0, h1 => .tree E_B14_ok (r21_before_L0_t _ _ _ _ _) (by
  refine qah (fun _ => ⟨⟨hsm, hn, qck _ _⟩, fun _ _ => ?_⟩) fun h => absurd (of_decide_eq_false h) (by omega)
  rw [rBack_out, wrap64 _ (by omega) (by omega)]
  exact rbe_l f hsm hn b at_ ha m (i - 1) _ (by omega) (by omega) (by omega))
def k_r21_before : Con := conO 99 [.d qad, .d I, .d I, .d (.sl 24 (.sl 1 .bool))] (.sl 1 .bool) (fun x => qan x.1 ∧ WL x.1 x.2.2.2.1 ∧ (0 ≤ z x.2.1 ∧ z x.2.1 < (nB x.1 : Int)) ∧ -1 ≤ z x.2.2.1 ∧ z x.2.2.1 ≤ nIns x.1 x.2.1) fun x => qci x.1 x.2.1 x.2.2.1 x.2.2.2.1
theorem m_r21_before (f : Den qad) (b : Int) (at_ : Int) (live : List (Den (.sl 1 .bool))) (h_f : okD qad f) (h_b : okD I b) (h_at_ : okD I at_) (h_live : okD (.sl 24 (.sl 1 .bool)) live) (hp : qan f ∧ WL f live ∧ (0 ≤ z b ∧ z b < (nB f : Int)) ∧ -1 ≤ z at_ ∧ z at_ ≤ nIns f b) : Runs E_B14 (start E_B14 qdo [(.tv qad f), (vi b), (vi at_), (.tv (.sl 24 (.sl 1 .bool)) live)]) (fun r_ h_ => r_ = (ownRes 99 (.sl 1 .bool) (qci f b at_ live)).1 ∧ h_ = (ownRes 99 (.sl 1 .bool) (qci f b at_ live)).2) := .tree E_B14_ok (r21_before_t f b at_ live) (by
 obtain ⟨hsm, hl, hb, h0, h1⟩ := hp
 have h0 : -1 ≤ at_ := h0
 have h1 : at_ ≤ nIns f b := h1
 refine ⟨⟨hl, hb⟩, fun _ _ => ⟨hb, fun _ => ?_⟩⟩
 have hb1 : z b < (ln qab (qat f) : Int) := hb.2
 have hbn : b.toNat < ln qab (qat f) := by
  have := hb.1
  show (z b).toNat < _
  omega
 have hN : nIns f b ≤ 9223372036854775000 := by
  have h2 : ln qaf (gd qab f.2.2.2.2.1 b.toNat).2.1 * 80 ≤ roomB := ((okB_of h_f).2 _ hbn).2.1.1.1
  have e : nIns f b = (ln qaf (gd qab f.2.2.2.2.1 b.toNat).2.1 : Int) := rfl
  rw [e]
  simp only [roomB] at h2
  omega
 exact rbe_l f hsm hl.n b at_ h0 _ (nIns f b) (outQ f b (mR live)) rfl (by omega) hN)
theorem c_r21_before : qas E_B14 qdo k_r21_before.spec := qbg fun x hx hp => ⟨rfl, m_r21_before x.1 x.2.1 x.2.2.1 x.2.2.2.1 hx.1 hx.2.1 hx.2.2.1 hx.2.2.2.1 hp⟩
def L_B14 : List (FuncId × FSpec) := [(qdo, k_r21_before.spec)] ++ L_B13
theorem L_B14_ok : ∀ x ∈ L_B14, qas (ctx []) x.1 x.2 := by
 unfold L_B14
 simp only [List.cons_append, List.nil_append, List.forall_mem_cons]
 exact ⟨c_r21_before, L_B13_ok⟩
def LI_B14 : List IoT := [] ++ LI_B13
theorem LI_B14_ok : ∀ x ∈ LI_B14, qbn (ctx []) x.1 x.2.1 x.2.2 := by
 unfold LI_B14
 simp only [List.cons_append, List.nil_append, List.forall_mem_cons]
 exact LI_B13_ok
end Burn.M21
