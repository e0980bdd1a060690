/- What the functions that the law reaches compute, one contract each. No conditions beyond those written. -/
import Derived.Test.YtfnbbidogehnfaaGreatDoorEngineE
import Derived.Test.YtfnbbidogehnfaaGreatDoorProg
import Derived.KernelRfl
import Derived.Test.YtfnbbidogehnfaaGreatDoorPlainA
namespace Burn.M24
open Go Go.BE Go.Proofs
set_option maxRecDepth 100000
abbrev s_runtime_boundsError : Sh := (.pair I (.pair I (.pair .bool (.pair (.int .u8) .unit))))
abbrev qet : Sh := (.pair .str (.pair (.int .u64) .unit))
abbrev qar : Sh := (.pair .str (.pair I (.pair I (.pair (.sl 8 I) (.pair .bool .unit)))))
abbrev qah : Sh := (.pair I (.pair I (.pair I (.pair (.sl 8 I) (.pair I (.pair I (.pair I (.pair .bool .unit))))))))
abbrev qaf : Sh := (.pair I (.pair (.sl 8 I) .unit))
abbrev qca : Sh := (.pair I (.pair (.sl 8 I) (.pair (.sl 8 I) (.pair (.sl 32 qaf) (.pair I .unit)))))
abbrev qad : Sh := (.pair (.sl 8 I) (.pair (.sl 80 qah) (.pair qca .unit)))
abbrev qai : Sh := (.pair .str (.pair (.sl 8 I) (.pair I (.pair (.sl 8 I) (.pair (.sl 136 qad) .unit)))))
abbrev qaq : Sh := (.pair (.sl 64 qar) (.pair (.sl 96 qai) .unit))
abbrev qak : Sh := (.pair I (.pair I .unit))
abbrev qaj : Sh := (.pair I (.pair I (.pair I .unit)))
abbrev qab : Sh := (.pair .bool (.pair .bool (.pair I (.pair (.sl 24 qaj) .unit))))
abbrev qac : Sh := (.pair I (.pair I (.pair (.sl 40 qab) .unit)))
abbrev qal : Sh := (.pair I (.pair (.sl 8 I) (.pair (.sl 8 I) (.pair I .unit))))
abbrev qae : Sh := (.pair (.sl 16 qak) (.pair (.sl 40 qac) (.pair (.sl 64 qal) .unit)))
abbrev s_law24_Task : Sh := (.pair qaq (.pair qaq (.pair I (.pair qae .unit))))
abbrev s_law24_Request : Sh := (.pair (.sl 8 I) (.pair (.sl 8 I) (.pair (.sl 8 I) (.pair (.sl 40 qab) .unit))))
abbrev qay : Sh := (.pair I (.pair I (.pair I (.pair I (.pair I .unit)))))
abbrev s_varint_cursor : Sh := (.pair (.sl 1 (.int .u8)) (.pair I (.pair I .unit)))
abbrev s_varint_Reader : Sh := (.pair s_varint_cursor (.pair .bool .unit))
abbrev s_witness_reader : Sh := (.pair (.ptr s_varint_Reader) (.pair I .unit))
abbrev s_r02_Reader : Sh := (.pair .bool (.pair (.sl 1 (.int .u8)) (.pair I .unit)))
abbrev s_r24_Decoder : Sh := (.pair (.ptr s_r02_Reader) (.pair I .unit))
abbrev qdd : Sh := (.pair qai (.pair (.sl 8 I) (.pair (.sl 24 (.sl 16 qak)) .unit)))
abbrev qde : Sh := (.pair (.sl 24 (.sl 8 I)) .unit)
abbrev s_witness_named : Sh := (.pair .bool (.pair I .unit))
abbrev qaa : Sh := (.pair .bool (.pair I (.pair (.sl 8 (.int .u64)) .unit)))
abbrev qag : Sh := (.pair qai (.pair (.sl 8 (.ptr qaa)) .unit))
abbrev s_domtree_solver : Sh := (.pair (.sl 24 (.sl 8 I)) (.pair (.sl 8 I) (.pair (.sl 8 I) .unit)))
abbrev s_verify_failure : Sh := (.pair qay .unit)
abbrev s_verify_place : Sh := (.pair I (.pair I (.pair I (.pair I .unit))))
abbrev s_opcode_row : Sh := (.pair .str (.pair I .unit))
def deBr : Den (.arr 64 (.int .u8)) := ((0 : Int), (1 : Int), (56 : Int), (2 : Int), (57 : Int), (49 : Int), (28 : Int), (3 : Int), (61 : Int), (58 : Int), (42 : Int), (50 : Int), (38 : Int), (29 : Int), (17 : Int), (4 : Int), (62 : Int), (47 : Int), (59 : Int), (36 : Int), (45 : Int), (43 : Int), (51 : Int), (22 : Int), (53 : Int), (39 : Int), (33 : Int), (30 : Int), (24 : Int), (18 : Int), (12 : Int), (5 : Int), (63 : Int), (55 : Int), (48 : Int), (27 : Int), (60 : Int), (41 : Int), (37 : Int), (16 : Int), (46 : Int), (35 : Int), (44 : Int), (21 : Int), (52 : Int), (32 : Int), (23 : Int), (11 : Int), (54 : Int), (26 : Int), (40 : Int), (15 : Int), (34 : Int), (20 : Int), (31 : Int), (10 : Int), (25 : Int), (14 : Int), (19 : Int), (9 : Int), (13 : Int), (8 : Int), (7 : Int), (6 : Int), ())
def tyN : Nat := 345
def tyTr : Tr TI := (.node none (.node (some ⟨.other, 1, 8, [.nilFunc], none⟩) (.node (some ⟨.int .i64, 1, 8, [.int .i64 0], some I⟩) (.node (some ⟨.struct [⟨0, 1, false⟩, ⟨1, 1, false⟩, ⟨2, 1, false⟩, ⟨3, 1, false⟩], 4, 24, [.int .i64 0, .int .i64 0, .bool false, .int .u8 0], some s_runtime_boundsError⟩) (.node (some ⟨.ptr 332, 1, 8, [.pointer none], none⟩) (.node (some ⟨.struct [⟨0, 2, true⟩, ⟨2, 2, true⟩, ⟨4, 1, false⟩, ⟨5, 3, true⟩], 8, 176, [.slice none 0 0, .slice none 0 0, .slice none 0 0, .slice none 0 0, .int .i64 0, .slice none 0 0, .slice none 0 0, .slice none 0 0], some s_law24_Task⟩) (.node (some ⟨.other, 1, 8, [.nilFunc], none⟩) (.node none (.node (some ⟨.struct [⟨0, 5, true⟩], 5, 40, [.int .i64 0, .int .i64 0, .int .i64 0, .int .i64 0, .int .i64 0], some s_verify_failure⟩) .leaf .leaf) .leaf) (.node (some ⟨.struct [⟨0, 1, false⟩, ⟨1, 1, false⟩, ⟨2, 1, false⟩], 3, 72, [.slice none 0 0, .slice none 0 0, .slice none 0 0], some s_domtree_solver⟩) (.node (some ⟨.other, 1, 8, [.nilFunc], none⟩) .leaf .leaf) .leaf)) (.node (some ⟨.other, 1, 8, [.nilFunc], none⟩) (.node none (.node (some ⟨.other, 1, 8, [.nilFunc], none⟩) .leaf .leaf) .leaf) (.node (some ⟨.other, 1, 8, [.nilFunc], none⟩) .leaf .leaf))) (.node (some ⟨.struct [⟨0, 1, false⟩, ⟨1, 1, false⟩, ⟨2, 1, false⟩, ⟨3, 1, false⟩], 4, 96, [.slice none 0 0, .slice none 0 0, .slice none 0 0, .slice none 0 0], some s_law24_Request⟩) (.node (some ⟨.struct [⟨0, 1, false⟩, ⟨1, 1, false⟩, ⟨2, 1, false⟩, ⟨3, 1, false⟩, ⟨4, 1, false⟩, ⟨5, 1, false⟩, ⟨6, 1, false⟩, ⟨7, 1, false⟩], 8, 80, [.int .i64 0, .int .i64 0, .int .i64 0, .slice none 0 0, .int .i64 0, .int .i64 0, .int .i64 0, .bool false], some qah⟩) (.node (some ⟨.other, 1, 8, [.nilFunc], none⟩) (.node (some ⟨.other, 1, 8, [.nilFunc], none⟩) .leaf .leaf) .leaf) (.node (some ⟨.other, 1, 8, [.nilFunc], none⟩) (.node (some ⟨.struct [⟨0, 0, true⟩], 0, 0, [], none⟩) .leaf .leaf) .leaf)) (.node (some ⟨.ptr 170, 1, 8, [.pointer none], some (.ptr s_r02_Reader)⟩) (.node (some ⟨.ptr 278, 1, 8, [.pointer none], some (.ptr qaa)⟩) (.node (some ⟨.other, 1, 8, [.nilFunc], none⟩) .leaf .leaf) .leaf) (.node (some ⟨.other, 1, 8, [.nilFunc], none⟩) .leaf .leaf)))) (.node (some ⟨.slice 52, 1, 24, [.slice none 0 0], some (.sl 96 qai)⟩) (.node (some ⟨.slice 5, 1, 24, [.slice none 0 0], some (.sl 1 (.int .u8))⟩) (.node (some ⟨.struct [⟨0, 1, false⟩, ⟨1, 1, false⟩, ⟨2, 1, false⟩, ⟨3, 1, false⟩, ⟨4, 1, false⟩], 5, 64, [.string ⟨#[]⟩, .int .i64 0, .int .i64 0, .slice none 0 0, .bool false], some qar⟩) (.node (some ⟨.struct [⟨0, 1, false⟩], 1, 24, [.slice none 0 0], some qde⟩) (.node (some ⟨.other, 1, 8, [.nilFunc], none⟩) .leaf .leaf) .leaf) (.node (some ⟨.other, 1, 8, [.nilFunc], none⟩) (.node (some ⟨.ptr 321, 1, 8, [.pointer none], some (.ptr (.int .u64))⟩) .leaf .leaf) .leaf)) (.node (some ⟨.other, 1, 8, [.nilFunc], none⟩) (.node (some ⟨.other, 1, 8, [.nilFunc], none⟩) (.node (some ⟨.other, 1, 8, [.nilFunc], none⟩) .leaf .leaf) .leaf) (.node (some ⟨.other, 1, 8, [.nilFunc], none⟩) .leaf .leaf))) (.node (some ⟨.other, 1, 8, [.nilFunc], none⟩) (.node (some ⟨.struct [⟨0, 1, false⟩, ⟨1, 1, false⟩, ⟨2, 1, false⟩, ⟨3, 1, false⟩], 4, 64, [.int .i64 0, .slice none 0 0, .slice none 0 0, .int .i64 0], some qal⟩) (.node (some ⟨.other, 1, 8, [.nilFunc], none⟩) (.node (some ⟨.other, 1, 8, [.nilFunc], none⟩) .leaf .leaf) .leaf) (.node none (.node (some ⟨.struct [⟨0, 1, false⟩, ⟨1, 1, false⟩, ⟨2, 1, false⟩, ⟨3, 1, false⟩, ⟨4, 1, false⟩, ⟨5, 1, false⟩, ⟨6, 1, false⟩, ⟨7, 1, false⟩, ⟨8, 1, false⟩, ⟨9, 1, false⟩, ⟨10, 1, false⟩], 11, 48, [.int .u64 0, .int .u64 0, .int .u32 0, .int .u8 0, .int .u8 0, .int .u8 0, .int .u8 0, .nilFunc, .pointer none, .int .i32 0, .int .i32 0], none⟩) .leaf .leaf) .leaf)) (.node (some ⟨.slice 26, 1, 24, [.slice none 0 0], some (.sl 24 (.sl 16 qak))⟩) (.node (some ⟨.other, 1, 8, [.nilFunc], none⟩) (.node (some ⟨.other, 1, 8, [.nilFunc], none⟩) .leaf .leaf) .leaf) (.node (some ⟨.other, 1, 8, [.nilFunc], none⟩) .leaf .leaf))))) (.node (some ⟨.str, 1, 16, [.string ⟨#[]⟩], some .str⟩) (.node (some ⟨.struct [⟨0, 1, false⟩], 1, 8, [.pointer none], none⟩) (.node (some ⟨.other, 1, 8, [.nilFunc], none⟩) (.node (some ⟨.other, 1, 8, [.nilFunc], none⟩) (.node (some ⟨.other, 1, 8, [.nilFunc], none⟩) (.node (some ⟨.other, 1, 8, [.nilFunc], none⟩) .leaf .leaf) .leaf) (.node (some ⟨.other, 1, 8, [.nilFunc], none⟩) (.node (some ⟨.other, 1, 8, [.nilFunc], none⟩) .leaf .leaf) .leaf)) (.node (some ⟨.ptr 166, 1, 8, [.pointer none], some (.ptr s_varint_Reader)⟩) (.node (some ⟨.struct [⟨0, 1, false⟩, ⟨1, 1, false⟩, ⟨2, 1, false⟩], 3, 40, [.slice none 0 0, .int .i64 0, .int .i64 0], some s_varint_cursor⟩) (.node (some ⟨.other, 1, 8, [.nilFunc], none⟩) .leaf .leaf) .leaf) (.node (some ⟨.other, 1, 8, [.nilFunc], none⟩) .leaf .leaf))) (.node (some ⟨.struct [⟨0, 1, false⟩, ⟨1, 1, false⟩, ⟨2, 1, false⟩, ⟨3, 1, false⟩, ⟨4, 1, false⟩], 5, 96, [.string ⟨#[]⟩, .slice none 0 0, .int .i64 0, .slice none 0 0, .slice none 0 0], some qai⟩) (.node (some ⟨.struct [⟨0, 1, false⟩, ⟨1, 1, false⟩, ⟨2, 1, false⟩], 3, 40, [.int .i64 0, .int .i64 0, .slice none 0 0], some qac⟩) (.node (some ⟨.struct [⟨0, 1, false⟩, ⟨1, 1, false⟩, ⟨2, 1, false⟩], 3, 24, [.int .i64 0, .int .i64 0, .int .i64 0], some qaj⟩) (.node (some ⟨.other, 1, 8, [.nilFunc], none⟩) .leaf .leaf) .leaf) (.node (some ⟨.other, 1, 8, [.nilFunc], none⟩) (.node (some ⟨.ptr 5, 1, 8, [.pointer none], some (.ptr (.int .u8))⟩) .leaf .leaf) .leaf)) (.node (some ⟨.other, 1, 8, [.nilFunc], none⟩) (.node (some ⟨.other, 1, 8, [.nilFunc], none⟩) (.node (some ⟨.other, 1, 8, [.nilFunc], none⟩) .leaf .leaf) .leaf) (.node (some ⟨.other, 1, 8, [.nilFunc], none⟩) .leaf .leaf)))) (.node (some ⟨.slice 83, 1, 24, [.slice none 0 0], some (.sl 40 qac)⟩) (.node (some ⟨.other, 1, 8, [.nilFunc], none⟩) (.node (some ⟨.struct [⟨0, 1, false⟩, ⟨1, 1, false⟩, ⟨2, 1, false⟩, ⟨3, 1, false⟩, ⟨4, 1, false⟩], 5, 88, [.int .i64 0, .slice none 0 0, .slice none 0 0, .slice none 0 0, .int .i64 0], some qca⟩) (.node (some ⟨.other, 1, 8, [.nilFunc], none⟩) (.node (some ⟨.other, 1, 8, [.nilFunc], none⟩) .leaf .leaf) .leaf) (.node none (.node (some ⟨.struct [⟨0, 1, false⟩, ⟨1, 1, false⟩, ⟨2, 1, false⟩, ⟨3, 1, false⟩], 4, 40, [.pointer none, .pointer none, .pointer none, .string ⟨#[]⟩], none⟩) .leaf .leaf) .leaf)) (.node (some ⟨.other, 1, 8, [.nilFunc], none⟩) (.node (some ⟨.other, 1, 8, [.nilFunc], none⟩) (.node (some ⟨.slice 302, 1, 24, [.slice none 0 0], some (.sl 24 s_opcode_row)⟩) .leaf .leaf) .leaf) (.node (some ⟨.other, 1, 8, [.nilFunc], none⟩) .leaf .leaf))) (.node (some ⟨.struct [⟨0, 1, false⟩, ⟨1, 1, false⟩, ⟨2, 1, false⟩, ⟨3, 1, false⟩, ⟨4, 1, false⟩], 5, 40, [.int .i64 0, .int .i64 0, .int .i64 0, .int .i64 0, .int .i64 0], some qay⟩) (.node (some ⟨.other, 1, 8, [.nilFunc], none⟩) (.node (some ⟨.other, 1, 8, [.nilFunc], none⟩) (.node none .leaf .leaf) .leaf) (.node (some ⟨.other, 1, 8, [.nilFunc], none⟩) .leaf .leaf)) (.node (some ⟨.slice 125, 1, 24, [.slice none 0 0], some (.sl 24 (.sl 1 .bool))⟩) (.node (some ⟨.ptr 191, 1, 8, [.pointer none], some (.ptr s_domtree_solver)⟩) (.node none .leaf .leaf) .leaf) (.node (some ⟨.other, 1, 8, [.nilFunc], none⟩) .leaf .leaf)))))) (.node (some ⟨.int .u8, 1, 1, [.int .u8 0], some (.int .u8)⟩) (.node (some ⟨.str, 1, 16, [.string ⟨#[]⟩], some .str⟩) (.node (some ⟨.ptr 343, 1, 8, [.pointer none], none⟩) (.node (some ⟨.other, 1, 8, [.nilFunc], none⟩) (.node (some ⟨.other, 1, 8, [.nilFunc], none⟩) (.node (some ⟨.other, 1, 8, [.nilFunc], none⟩) (.node (some ⟨.struct [⟨0, 1, false⟩, ⟨1, 1, false⟩, ⟨2, 1, false⟩, ⟨3, 1, false⟩], 4, 32, [.int .i64 0, .int .i64 0, .int .i64 0, .int .i64 0], some s_verify_place⟩) .leaf .leaf) .leaf) (.node (some ⟨.other, 1, 8, [.nilFunc], none⟩) (.node (some ⟨.int .u64, 1, 8, [.int .u64 0], some (.int .u64)⟩) .leaf .leaf) .leaf)) (.node (some ⟨.other, 1, 8, [.nilFunc], none⟩) (.node (some ⟨.other, 1, 8, [.nilFunc], none⟩) (.node (some ⟨.struct [⟨0, 1, false⟩, ⟨1, 1, false⟩], 2, 16, [.int .i64 0, .int .i64 0], some qak⟩) .leaf .leaf) .leaf) (.node (some ⟨.other, 1, 8, [.nilFunc], none⟩) .leaf .leaf))) (.node (some ⟨.slice 48, 1, 24, [.slice none 0 0], some (.sl 8 I)⟩) (.node (some ⟨.struct [⟨0, 1, false⟩, ⟨1, 1, false⟩], 2, 32, [.int .i64 0, .slice none 0 0], some qaf⟩) (.node (some ⟨.other, 1, 8, [.nilFunc], none⟩) (.node (some ⟨.other, 1, 8, [.nilFunc], none⟩) .leaf .leaf) .leaf) (.node (some ⟨.other, 1, 8, [.nilFunc], none⟩) (.node (some ⟨.int .u8, 1, 1, [.int .u8 0], some (.int .u8)⟩) .leaf .leaf) .leaf)) (.node (some ⟨.struct [⟨0, 1, false⟩, ⟨1, 1, false⟩], 2, 16, [.pointer none, .int .i64 0], some s_r24_Decoder⟩) (.node (some ⟨.struct [⟨0, 5, true⟩, ⟨5, 1, false⟩], 6, 120, [.string ⟨#[]⟩, .slice none 0 0, .int .i64 0, .slice none 0 0, .slice none 0 0, .slice none 0 0], some qag⟩) (.node (some ⟨.other, 1, 8, [.nilFunc], none⟩) .leaf .leaf) .leaf) (.node (some ⟨.other, 1, 8, [.nilFunc], none⟩) .leaf .leaf)))) (.node (some ⟨.struct [⟨0, 1, false⟩, ⟨1, 1, false⟩], 2, 48, [.slice none 0 0, .slice none 0 0], some qaq⟩) (.node (some ⟨.other, 1, 8, [.nilFunc], none⟩) (.node (some ⟨.slice 81, 1, 24, [.slice none 0 0], some (.sl 32 qaf)⟩) (.node (some ⟨.map 3 3, 1, 8, [.map none], none⟩) (.node (some ⟨.other, 1, 8, [.nilFunc], none⟩) .leaf .leaf) .leaf) (.node (some ⟨.other, 1, 8, [.nilFunc], none⟩) (.node (some ⟨.other, 1, 8, [.nilFunc], none⟩) .leaf .leaf) .leaf)) (.node (some ⟨.struct [⟨0, 1, false⟩, ⟨1, 1, false⟩], 2, 16, [.int .i64 0, .int .i64 0], some qak⟩) (.node (some ⟨.struct [⟨0, 1, false⟩, ⟨1, 1, false⟩, ⟨2, 1, false⟩], 3, 40, [.bool false, .slice none 0 0, .int .i64 0], some s_r02_Reader⟩) (.node (some ⟨.other, 1, 8, [.nilFunc], none⟩) .leaf .leaf) .leaf) (.node (some ⟨.other, 1, 8, [.nilFunc], none⟩) .leaf .leaf))) (.node (some ⟨.other, 1, 8, [.nilFunc], none⟩) (.node (some ⟨.other, 1, 8, [.nilFunc], none⟩) (.node (some ⟨.other, 1, 8, [.nilFunc], none⟩) (.node (some ⟨.other, 1, 8, [.nilFunc], none⟩) .leaf .leaf) .leaf) (.node (some ⟨.other, 1, 8, [.nilFunc], none⟩) .leaf .leaf)) (.node (some ⟨.struct [⟨0, 5, true⟩, ⟨5, 1, false⟩, ⟨6, 1, false⟩], 7, 144, [.string ⟨#[]⟩, .slice none 0 0, .int .i64 0, .slice none 0 0, .slice none 0 0, .slice none 0 0, .slice none 0 0], some qdd⟩) (.node (some ⟨.other, 1, 8, [.nilFunc], none⟩) (.node (some ⟨.other, 1, 8, [.nilFunc], none⟩) .leaf .leaf) .leaf) (.node (some ⟨.other, 1, 8, [.nilFunc], none⟩) .leaf .leaf))))) (.node (some ⟨.struct [⟨0, 1, false⟩, ⟨1, 1, false⟩], 2, 24, [.string ⟨#[]⟩, .int .u64 0], some qet⟩) (.node (some ⟨.int .i32, 1, 4, [.int .i32 0], some (.int .i32)⟩) (.node (some ⟨.other, 1, 8, [.nilFunc], none⟩) (.node (some ⟨.slice 2, 1, 24, [.slice none 0 0], some (.sl 8 I)⟩) (.node (some ⟨.slice 44, 1, 24, [.slice none 0 0], some (.sl 24 (.sl 8 I))⟩) (.node (some ⟨.other, 1, 8, [.nilFunc], none⟩) .leaf .leaf) .leaf) (.node (some ⟨.other, 1, 8, [.nilFunc], none⟩) (.node (some ⟨.ptr 3, 1, 8, [.pointer none], some (.ptr I)⟩) .leaf .leaf) .leaf)) (.node (some ⟨.struct [⟨0, 1, false⟩, ⟨1, 1, false⟩], 2, 16, [.pointer none, .int .i64 0], some s_witness_reader⟩) (.node (some ⟨.struct [⟨0, 3, true⟩, ⟨3, 1, false⟩], 4, 48, [.slice none 0 0, .int .i64 0, .int .i64 0, .bool false], some s_varint_Reader⟩) (.node (some ⟨.other, 1, 8, [.nilFunc], none⟩) .leaf .leaf) .leaf) (.node (some ⟨.other, 1, 8, [.nilFunc], none⟩) .leaf .leaf))) (.node none (.node (some ⟨.struct [⟨0, 1, false⟩, ⟨1, 1, false⟩, ⟨2, 1, false⟩, ⟨3, 1, false⟩], 4, 40, [.bool false, .bool false, .int .i64 0, .slice none 0 0], some qab⟩) (.node (some ⟨.other, 1, 8, [.nilFunc], none⟩) (.node (some ⟨.struct [⟨0, 1, false⟩, ⟨1, 1, false⟩, ⟨2, 1, false⟩], 3, 40, [.bool false, .int .i64 0, .slice none 0 0], some qaa⟩) .leaf .leaf) .leaf) (.node (some ⟨.other, 1, 8, [.nilFunc], none⟩) (.node (some ⟨.int .i32, 1, 4, [.int .i32 0], some (.int .i32)⟩) .leaf .leaf) .leaf)) (.node (some ⟨.other, 1, 8, [.nilFunc], none⟩) (.node (some ⟨.other, 1, 8, [.nilFunc], none⟩) (.node (some ⟨.other, 1, 8, [.nilFunc], none⟩) .leaf .leaf) .leaf) (.node none .leaf .leaf)))) (.node (some ⟨.struct [⟨0, 1, false⟩, ⟨1, 1, false⟩, ⟨2, 1, false⟩], 3, 72, [.slice none 0 0, .slice none 0 0, .slice none 0 0], some qae⟩) (.node (some ⟨.slice 86, 1, 24, [.slice none 0 0], some (.sl 40 qab)⟩) (.node (some ⟨.struct [⟨0, 1, false⟩, ⟨1, 1, false⟩, ⟨2, 5, true⟩], 7, 136, [.slice none 0 0, .slice none 0 0, .int .i64 0, .slice none 0 0, .slice none 0 0, .slice none 0 0, .int .i64 0], some qad⟩) (.node none (.node (some ⟨.other, 1, 8, [.nilFunc], none⟩) .leaf .leaf) .leaf) (.node (some ⟨.other, 1, 8, [.nilFunc], none⟩) (.node (some ⟨.arr 0 16, 0, 0, [], none⟩) .leaf .leaf) .leaf)) (.node (some ⟨.other, 1, 8, [.nilFunc], none⟩) (.node (some ⟨.other, 1, 8, [.nilFunc], none⟩) (.node (some ⟨.struct [⟨0, 1, false⟩, ⟨1, 1, false⟩], 2, 24, [.string ⟨#[]⟩, .int .i64 0], some s_opcode_row⟩) .leaf .leaf) .leaf) (.node (some ⟨.other, 1, 8, [.nilFunc], none⟩) .leaf .leaf))) (.node (some ⟨.other, 1, 8, [.nilFunc], none⟩) (.node (some ⟨.other, 1, 8, [.nilFunc], none⟩) (.node (some ⟨.struct [⟨0, 1, false⟩, ⟨1, 1, false⟩], 2, 16, [.bool false, .int .i64 0], some s_witness_named⟩) (.node (some ⟨.other, 1, 8, [.nilFunc], none⟩) .leaf .leaf) .leaf) (.node (some ⟨.ptr 164, 1, 8, [.pointer none], some (.ptr s_varint_cursor)⟩) .leaf .leaf)) (.node (some ⟨.slice 4, 1, 24, [.slice none 0 0], some (.sl 1 .bool)⟩) (.node (some ⟨.other, 1, 8, [.nilFunc], none⟩) (.node (some ⟨.other, 1, 8, [.nilFunc], none⟩) .leaf .leaf) .leaf) (.node (some ⟨.int .u64, 1, 8, [.int .u64 0], some (.int .u64)⟩) .leaf .leaf))))))) (.node (some ⟨.int .i64, 1, 8, [.int .i64 0], some I⟩) (.node (some ⟨.bool, 1, 1, [.bool false], some .bool⟩) (.node (some ⟨.struct [⟨0, 1, false⟩, ⟨1, 1, false⟩, ⟨2, 1, false⟩, ⟨3, 1, false⟩], 4, 24, [.int .i64 0, .int .i64 0, .bool false, .int .u8 0], some s_runtime_boundsError⟩) (.node (some ⟨.ptr 335, 1, 8, [.pointer none], none⟩) (.node (some ⟨.struct [⟨0, 2, true⟩, ⟨2, 2, true⟩, ⟨4, 1, false⟩, ⟨5, 3, true⟩], 8, 176, [.slice none 0 0, .slice none 0 0, .slice none 0 0, .slice none 0 0, .int .i64 0, .slice none 0 0, .slice none 0 0, .slice none 0 0], some s_law24_Task⟩) (.node none (.node (some ⟨.other, 1, 8, [.nilFunc], none⟩) (.node none .leaf .leaf) .leaf) (.node (some ⟨.other, 1, 8, [.nilFunc], none⟩) (.node (some ⟨.int .u32, 1, 4, [.int .u32 0], some (.int .u32)⟩) .leaf .leaf) .leaf)) (.node (some ⟨.other, 1, 8, [.nilFunc], none⟩) (.node (some ⟨.other, 1, 8, [.nilFunc], none⟩) (.node (some ⟨.struct [⟨0, 1, false⟩, ⟨1, 1, false⟩], 2, 16, [.int .i64 0, .int .i64 0], some qak⟩) .leaf .leaf) .leaf) (.node (some ⟨.other, 1, 8, [.nilFunc], none⟩) .leaf .leaf))) (.node (some ⟨.int .i64, 1, 8, [.int .i64 0], some I⟩) (.node (some ⟨.struct [⟨0, 1, false⟩, ⟨1, 1, false⟩], 2, 32, [.int .i64 0, .slice none 0 0], some qaf⟩) (.node (some ⟨.other, 1, 8, [.nilFunc], none⟩) (.node (some ⟨.other, 1, 8, [.nilFunc], none⟩) .leaf .leaf) .leaf) (.node (some ⟨.other, 1, 8, [.nilFunc], none⟩) (.node (some ⟨.int .u8, 1, 1, [.int .u8 0], some (.int .u8)⟩) .leaf .leaf) .leaf)) (.node (some ⟨.other, 1, 8, [.nilFunc], none⟩) (.node (some ⟨.slice 175, 1, 24, [.slice none 0 0], some (.sl 8 (.ptr qaa))⟩) (.node (some ⟨.arr 64 5, 64, 64, [.int .u8 0, .int .u8 0, .int .u8 0, .int .u8 0, .int .u8 0, .int .u8 0, .int .u8 0, .int .u8 0, .int .u8 0, .int .u8 0, .int .u8 0, .int .u8 0, .int .u8 0, .int .u8 0, .int .u8 0, .int .u8 0, .int .u8 0, .int .u8 0, .int .u8 0, .int .u8 0, .int .u8 0, .int .u8 0, .int .u8 0, .int .u8 0, .int .u8 0, .int .u8 0, .int .u8 0, .int .u8 0, .int .u8 0, .int .u8 0, .int .u8 0, .int .u8 0, .int .u8 0, .int .u8 0, .int .u8 0, .int .u8 0, .int .u8 0, .int .u8 0, .int .u8 0, .int .u8 0, .int .u8 0, .int .u8 0, .int .u8 0, .int .u8 0, .int .u8 0, .int .u8 0, .int .u8 0, .int .u8 0, .int .u8 0, .int .u8 0, .int .u8 0, .int .u8 0, .int .u8 0, .int .u8 0, .int .u8 0, .int .u8 0, .int .u8 0, .int .u8 0, .int .u8 0, .int .u8 0, .int .u8 0, .int .u8 0, .int .u8 0, .int .u8 0], some (.arr 64 (.int .u8))⟩) .leaf .leaf) .leaf) (.node (some ⟨.other, 1, 8, [.nilFunc], none⟩) .leaf .leaf)))) (.node (some ⟨.struct [⟨0, 1, false⟩, ⟨1, 1, false⟩], 2, 48, [.slice none 0 0, .slice none 0 0], some qaq⟩) (.node none (.node (some ⟨.slice 79, 1, 24, [.slice none 0 0], some (.sl 80 qah)⟩) (.node (some ⟨.other, 1, 8, [.nilFunc], none⟩) (.node (some ⟨.other, 1, 8, [.nilFunc], none⟩) .leaf .leaf) .leaf) (.node (some ⟨.other, 1, 8, [.nilFunc], none⟩) (.node none .leaf .leaf) .leaf)) (.node (some ⟨.other, 1, 8, [.nilFunc], none⟩) (.node (some ⟨.other, 1, 8, [.nilFunc], none⟩) (.node (some ⟨.other, 1, 8, [.nilFunc], none⟩) .leaf .leaf) .leaf) (.node (some ⟨.other, 1, 8, [.nilFunc], none⟩) .leaf .leaf))) (.node (some ⟨.other, 1, 8, [.nilFunc], none⟩) (.node (some ⟨.struct [⟨0, 1, false⟩, ⟨1, 1, false⟩, ⟨2, 1, false⟩, ⟨3, 1, false⟩], 4, 64, [.int .i64 0, .slice none 0 0, .slice none 0 0, .int .i64 0], some qal⟩) (.node (some ⟨.other, 1, 8, [.nilFunc], none⟩) (.node (some ⟨.other, 1, 8, [.nilFunc], none⟩) .leaf .leaf) .leaf) (.node (some ⟨.other, 1, 8, [.nilFunc], none⟩) (.node (some ⟨.other, 1, 8, [.pointer none], none⟩) .leaf .leaf) .leaf)) (.node (some ⟨.struct [⟨0, 5, true⟩, ⟨5, 1, false⟩, ⟨6, 1, false⟩], 7, 144, [.string ⟨#[]⟩, .slice none 0 0, .int .i64 0, .slice none 0 0, .slice none 0 0, .slice none 0 0, .slice none 0 0], some qdd⟩) (.node (some ⟨.other, 1, 8, [.nilFunc], none⟩) (.node (some ⟨.other, 1, 8, [.nilFunc], none⟩) .leaf .leaf) .leaf) (.node (some ⟨.other, 1, 8, [.nilFunc], none⟩) .leaf .leaf))))) (.node (some ⟨.int .u64, 1, 8, [.int .u64 0], some (.int .u64)⟩) (.node (some ⟨.other, 1, 16, [.nilIface], none⟩) (.node (some ⟨.int .i64, 1, 8, [.int .i64 0], some I⟩) (.node (some ⟨.other, 1, 8, [.nilFunc], none⟩) (.node (some ⟨.other, 1, 8, [.nilFunc], none⟩) (.node (some ⟨.slice 9, 1, 24, [.slice none 0 0], some (.sl 16 .str)⟩) .leaf .leaf) .leaf) (.node (some ⟨.other, 1, 8, [.nilFunc], none⟩) (.node (some ⟨.other, 1, 8, [.nilFunc], none⟩) .leaf .leaf) .leaf)) (.node (some ⟨.other, 1, 8, [.nilFunc], none⟩) (.node (some ⟨.struct [⟨0, 1, false⟩, ⟨1, 1, false⟩, ⟨2, 1, false⟩], 3, 40, [.slice none 0 0, .int .i64 0, .int .i64 0], some s_varint_cursor⟩) (.node (some ⟨.ptr 289, 1, 8, [.pointer none], some (.ptr qak)⟩) .leaf .leaf) .leaf) (.node (some ⟨.other, 1, 8, [.nilFunc], none⟩) .leaf .leaf))) (.node (some ⟨.struct [⟨0, 1, false⟩, ⟨1, 1, false⟩, ⟨2, 1, false⟩, ⟨3, 1, false⟩, ⟨4, 1, false⟩], 5, 96, [.string ⟨#[]⟩, .slice none 0 0, .int .i64 0, .slice none 0 0, .slice none 0 0], some qai⟩) (.node (some ⟨.slice 148, 1, 24, [.slice none 0 0], some (.sl 24 qaj)⟩) (.node (some ⟨.struct [⟨0, 1, false⟩, ⟨1, 1, false⟩, ⟨2, 1, false⟩], 3, 24, [.int .i64 0, .int .i64 0, .int .i64 0], some qaj⟩) (.node (some ⟨.slice 204, 1, 24, [.slice none 0 0], some (.sl 8 (.int .u64))⟩) .leaf .leaf) .leaf) (.node (some ⟨.other, 1, 8, [.nilFunc], none⟩) (.node (some ⟨.int .i32, 1, 4, [.int .i32 0], some (.int .i32)⟩) .leaf .leaf) .leaf)) (.node (some ⟨.other, 1, 8, [.nilFunc], none⟩) (.node (some ⟨.other, 1, 8, [.nilFunc], none⟩) (.node (some ⟨.other, 1, 8, [.nilFunc], none⟩) .leaf .leaf) .leaf) (.node (some ⟨.other, 1, 8, [.nilFunc], none⟩) .leaf .leaf)))) (.node (some ⟨.slice 88, 1, 24, [.slice none 0 0], some (.sl 64 qal)⟩) (.node (some ⟨.slice 3, 1, 24, [.slice none 0 0], some (.sl 8 I)⟩) (.node (some ⟨.struct [⟨0, 1, false⟩, ⟨1, 1, false⟩, ⟨2, 5, true⟩], 7, 136, [.slice none 0 0, .slice none 0 0, .int .i64 0, .slice none 0 0, .slice none 0 0, .slice none 0 0, .int .i64 0], some qad⟩) (.node (some ⟨.other, 1, 8, [.nilFunc], none⟩) (.node (some ⟨.other, 1, 8, [.nilFunc], none⟩) .leaf .leaf) .leaf) (.node (some ⟨.int .u64, 1, 8, [.int .u64 0], some (.int .u64)⟩) (.node (some ⟨.struct [⟨0, 1, false⟩, ⟨1, 1, false⟩, ⟨2, 1, false⟩, ⟨3, 1, false⟩], 4, 40, [.pointer none, .pointer none, .pointer none, .string ⟨#[]⟩], none⟩) .leaf .leaf) .leaf)) (.node (some ⟨.other, 1, 8, [.nilFunc], none⟩) (.node (some ⟨.ptr 178, 1, 8, [.pointer none], some (.ptr qag)⟩) (.node (some ⟨.other, 1, 8, [.nilFunc], none⟩) .leaf .leaf) .leaf) (.node (some ⟨.other, 1, 8, [.nilFunc], none⟩) .leaf .leaf))) (.node (some ⟨.struct [⟨0, 1, false⟩, ⟨1, 1, false⟩, ⟨2, 1, false⟩, ⟨3, 1, false⟩, ⟨4, 1, false⟩], 5, 40, [.int .i64 0, .int .i64 0, .int .i64 0, .int .i64 0, .int .i64 0], some qay⟩) (.node (some ⟨.map 3 4, 1, 8, [.map none], none⟩) (.node (some ⟨.map 158 4, 1, 8, [.map none], none⟩) (.node (some ⟨.other, 1, 8, [.nilFunc], none⟩) .leaf .leaf) .leaf) (.node (some ⟨.other, 1, 8, [.nilFunc], none⟩) .leaf .leaf)) (.node (some ⟨.other, 1, 8, [.nilFunc], none⟩) (.node (some ⟨.other, 1, 8, [.nilFunc], none⟩) (.node (some ⟨.other, 1, 8, [.nilFunc], none⟩) .leaf .leaf) .leaf) (.node (some ⟨.other, 1, 8, [.nilFunc], none⟩) .leaf .leaf)))))) (.node (some ⟨.int .u8, 1, 1, [.int .u8 0], some (.int .u8)⟩) (.node (some ⟨.str, 1, 16, [.string ⟨#[]⟩], some .str⟩) (.node (some ⟨.struct [⟨0, 1, false⟩], 1, 8, [.pointer none], none⟩) (.node (some ⟨.other, 1, 8, [.nilFunc], none⟩) (.node (some ⟨.other, 1, 8, [.nilFunc], none⟩) (.node (some ⟨.other, 1, 8, [.nilFunc], none⟩) (.node (some ⟨.struct [⟨0, 1, false⟩, ⟨1, 1, false⟩, ⟨2, 1, false⟩, ⟨3, 1, false⟩], 4, 32, [.int .i64 0, .int .i64 0, .int .i64 0, .int .i64 0], some s_verify_place⟩) .leaf .leaf) .leaf) (.node (some ⟨.other, 1, 8, [.nilFunc], none⟩) (.node (some ⟨.other, 1, 8, [.nilFunc], none⟩) .leaf .leaf) .leaf)) (.node (some ⟨.ptr 102, 1, 8, [.pointer none], some (.ptr s_witness_reader)⟩) (.node (some ⟨.other, 1, 8, [.nilFunc], none⟩) (.node (some ⟨.slice 289, 1, 24, [.slice none 0 0], some (.sl 16 qak)⟩) .leaf .leaf) .leaf) (.node (some ⟨.other, 1, 8, [.nilFunc], none⟩) .leaf .leaf))) (.node (some ⟨.slice 77, 1, 24, [.slice none 0 0], some (.sl 136 qad)⟩) (.node (some ⟨.struct [⟨0, 1, false⟩, ⟨1, 1, false⟩, ⟨2, 1, false⟩], 3, 40, [.int .i64 0, .int .i64 0, .slice none 0 0], some qac⟩) (.node (some ⟨.other, 1, 8, [.nilFunc], none⟩) (.node (some ⟨.other, 1, 8, [.nilFunc], none⟩) .leaf .leaf) .leaf) (.node (some ⟨.other, 1, 8, [.nilFunc], none⟩) (.node (some ⟨.other, 1, 8, [.nilFunc], none⟩) .leaf .leaf) .leaf)) (.node (some ⟨.struct [⟨0, 1, false⟩, ⟨1, 1, false⟩], 2, 16, [.pointer none, .int .i64 0], some s_r24_Decoder⟩) (.node (some ⟨.struct [⟨0, 5, true⟩, ⟨5, 1, false⟩], 6, 120, [.string ⟨#[]⟩, .slice none 0 0, .int .i64 0, .slice none 0 0, .slice none 0 0, .slice none 0 0], some qag⟩) (.node (some ⟨.other, 1, 8, [.nilFunc], none⟩) .leaf .leaf) .leaf) (.node (some ⟨.other, 1, 8, [.nilFunc], none⟩) .leaf .leaf)))) (.node (some ⟨.slice 106, 1, 24, [.slice none 0 0], some (.sl 16 qak)⟩) (.node (some ⟨.other, 1, 8, [.nilFunc], none⟩) (.node (some ⟨.struct [⟨0, 1, false⟩, ⟨1, 1, false⟩, ⟨2, 1, false⟩, ⟨3, 1, false⟩, ⟨4, 1, false⟩], 5, 88, [.int .i64 0, .slice none 0 0, .slice none 0 0, .slice none 0 0, .int .i64 0], some qca⟩) (.node none (.node (some ⟨.other, 1, 8, [.nilFunc], none⟩) .leaf .leaf) .leaf) (.node (some ⟨.map 3 106, 1, 8, [.map none], none⟩) (.node (some ⟨.other, 1, 8, [.nilFunc], none⟩) .leaf .leaf) .leaf)) (.node (some ⟨.struct [⟨0, 1, false⟩, ⟨1, 1, false⟩], 2, 16, [.int .i64 0, .int .i64 0], some qak⟩) (.node (some ⟨.struct [⟨0, 1, false⟩, ⟨1, 1, false⟩, ⟨2, 1, false⟩], 3, 40, [.bool false, .slice none 0 0, .int .i64 0], some s_r02_Reader⟩) (.node (some ⟨.other, 1, 8, [.nilFunc], none⟩) .leaf .leaf) .leaf) (.node (some ⟨.other, 1, 8, [.nilFunc], none⟩) .leaf .leaf))) (.node (some ⟨.other, 1, 8, [.nilFunc], none⟩) (.node (some ⟨.other, 1, 8, [.nilFunc], none⟩) (.node (some ⟨.other, 1, 8, [.nilFunc], none⟩) (.node (some ⟨.other, 1, 8, [.nilFunc], none⟩) .leaf .leaf) .leaf) (.node (some ⟨.other, 1, 8, [.nilFunc], none⟩) .leaf .leaf)) (.node (some ⟨.other, 1, 8, [.nilFunc], none⟩) (.node (some ⟨.other, 1, 8, [.nilFunc], none⟩) (.node (some ⟨.int .i64, 1, 8, [.int .i64 0], some I⟩) .leaf .leaf) .leaf) (.node (some ⟨.other, 1, 8, [.nilFunc], none⟩) .leaf .leaf))))) (.node (some ⟨.struct [⟨0, 1, false⟩, ⟨1, 1, false⟩], 2, 24, [.string ⟨#[]⟩, .int .u64 0], some qet⟩) (.node (some ⟨.slice 71, 1, 24, [.slice none 0 0], some (.sl 64 qar)⟩) (.node (some ⟨.other, 1, 8, [.nilFunc], none⟩) (.node (some ⟨.struct [⟨0, 1, false⟩, ⟨1, 1, false⟩, ⟨2, 1, false⟩, ⟨3, 1, false⟩, ⟨4, 1, false⟩], 5, 64, [.string ⟨#[]⟩, .int .i64 0, .int .i64 0, .slice none 0 0, .bool false], some qar⟩) (.node (some ⟨.struct [⟨0, 1, false⟩], 1, 24, [.slice none 0 0], some qde⟩) (.node (some ⟨.other, 1, 8, [.nilFunc], none⟩) .leaf .leaf) .leaf) (.node (some ⟨.other, 1, 8, [.nilFunc], none⟩) (.node (some ⟨.other, 1, 8, [.nilFunc], none⟩) .leaf .leaf) .leaf)) (.node (some ⟨.struct [⟨0, 1, false⟩, ⟨1, 1, false⟩], 2, 16, [.pointer none, .int .i64 0], some s_witness_reader⟩) (.node (some ⟨.struct [⟨0, 3, true⟩, ⟨3, 1, false⟩], 4, 48, [.slice none 0 0, .int .i64 0, .int .i64 0, .bool false], some s_varint_Reader⟩) (.node (some ⟨.other, 1, 8, [.nilFunc], none⟩) .leaf .leaf) .leaf) (.node (some ⟨.other, 1, 8, [.nilFunc], none⟩) .leaf .leaf))) (.node (some ⟨.other, 1, 8, [.nilFunc], none⟩) (.node (some ⟨.struct [⟨0, 1, false⟩, ⟨1, 1, false⟩, ⟨2, 1, false⟩, ⟨3, 1, false⟩], 4, 40, [.bool false, .bool false, .int .i64 0, .slice none 0 0], some qab⟩) (.node (some ⟨.other, 1, 8, [.nilFunc], none⟩) (.node (some ⟨.struct [⟨0, 1, false⟩, ⟨1, 1, false⟩, ⟨2, 1, false⟩], 3, 40, [.bool false, .int .i64 0, .slice none 0 0], some qaa⟩) .leaf .leaf) .leaf) (.node (some ⟨.other, 1, 8, [.nilFunc], none⟩) (.node (some ⟨.struct [⟨0, 1, false⟩, ⟨1, 1, false⟩, ⟨2, 1, false⟩, ⟨3, 1, false⟩, ⟨4, 1, false⟩, ⟨5, 1, false⟩, ⟨6, 1, false⟩, ⟨7, 1, false⟩, ⟨8, 1, false⟩, ⟨9, 1, false⟩, ⟨10, 1, false⟩], 11, 48, [.int .u64 0, .int .u64 0, .int .u32 0, .int .u8 0, .int .u8 0, .int .u8 0, .int .u8 0, .nilFunc, .pointer none, .int .i32 0, .int .i32 0], none⟩) .leaf .leaf) .leaf)) (.node (some ⟨.other, 1, 8, [.nilFunc], none⟩) (.node (some ⟨.other, 1, 8, [.nilFunc], none⟩) (.node (some ⟨.arr 5 3, 5, 40, [.int .i64 0, .int .i64 0, .int .i64 0, .int .i64 0, .int .i64 0], some (.arr 5 I)⟩) .leaf .leaf) .leaf) (.node (some ⟨.other, 1, 8, [.nilFunc], none⟩) .leaf .leaf)))) (.node (some ⟨.struct [⟨0, 1, false⟩, ⟨1, 1, false⟩, ⟨2, 1, false⟩], 3, 72, [.slice none 0 0, .slice none 0 0, .slice none 0 0], some qae⟩) (.node (some ⟨.struct [⟨0, 1, false⟩, ⟨1, 1, false⟩, ⟨2, 1, false⟩, ⟨3, 1, false⟩], 4, 96, [.slice none 0 0, .slice none 0 0, .slice none 0 0, .slice none 0 0], some s_law24_Request⟩) (.node (some ⟨.struct [⟨0, 1, false⟩, ⟨1, 1, false⟩, ⟨2, 1, false⟩, ⟨3, 1, false⟩, ⟨4, 1, false⟩, ⟨5, 1, false⟩, ⟨6, 1, false⟩, ⟨7, 1, false⟩], 8, 80, [.int .i64 0, .int .i64 0, .int .i64 0, .slice none 0 0, .int .i64 0, .int .i64 0, .int .i64 0, .bool false], some qah⟩) (.node (some ⟨.other, 1, 8, [.nilFunc], none⟩) (.node (some ⟨.other, 1, 8, [.nilFunc], none⟩) .leaf .leaf) .leaf) (.node (some ⟨.other, 1, 8, [.nilFunc], none⟩) (.node (some ⟨.struct [⟨0, 0, true⟩], 0, 0, [], none⟩) .leaf .leaf) .leaf)) (.node (some ⟨.ptr 114, 1, 8, [.pointer none], some (.ptr s_r24_Decoder)⟩) (.node (some ⟨.other, 1, 8, [.nilFunc], none⟩) (.node (some ⟨.struct [⟨0, 1, false⟩, ⟨1, 1, false⟩], 2, 24, [.string ⟨#[]⟩, .int .i64 0], some s_opcode_row⟩) .leaf .leaf) .leaf) (.node (some ⟨.other, 1, 8, [.nilFunc], none⟩) .leaf .leaf))) (.node (some ⟨.other, 1, 8, [.nilFunc], none⟩) (.node (some ⟨.other, 1, 8, [.nilFunc], none⟩) (.node (some ⟨.struct [⟨0, 1, false⟩, ⟨1, 1, false⟩], 2, 16, [.bool false, .int .i64 0], some s_witness_named⟩) (.node (some ⟨.other, 1, 8, [.nilFunc], none⟩) .leaf .leaf) .leaf) (.node none .leaf .leaf)) (.node (some ⟨.other, 1, 8, [.nilFunc], none⟩) (.node (some ⟨.struct [⟨0, 1, false⟩, ⟨1, 1, false⟩, ⟨2, 1, false⟩], 3, 72, [.slice none 0 0, .slice none 0 0, .slice none 0 0], some s_domtree_solver⟩) (.node (some ⟨.other, 1, 8, [.nilFunc], none⟩) .leaf .leaf) .leaf) (.node (some ⟨.struct [⟨0, 5, true⟩], 5, 40, [.int .i64 0, .int .i64 0, .int .i64 0, .int .i64 0, .int .i64 0], some s_verify_failure⟩) .leaf .leaf))))))))
def gl : Nat → Option AV
 | 0 => some (.rtp (.arr 64 (.int .u8)) deBr)
 | 1 => some (.rtp (.arr 5 I) ((0 : Int), (1 : Int), (8 : Int), (32 : Int), (64 : Int), ()))
 | _ => none
def fnL : List Nat := [4, 8, 9, 10, 12, 13, 14, 16, 17, 18, 20, 22, 26, 27, 28, 29, 30, 31, 32, 33, 34, 38, 39, 40, 41, 42, 43, 44, 45, 46, 47, 48, 49, 50, 51, 52, 53, 54, 55, 56, 57, 58, 65, 66, 73, 74, 75, 76, 77, 78, 79, 80, 81, 82, 83, 84, 85, 86, 87, 88, 89, 90, 91, 92, 97, 98, 99, 100, 101, 102, 103, 104, 105, 106, 107, 108, 109, 110, 111, 112, 113, 114, 115, 116, 117, 118, 119, 123, 124, 125, 126, 139, 140, 141, 142, 143, 144, 145, 146, 147, 148, 149, 150, 151, 152, 153, 154, 155, 160, 161, 162, 163, 164, 165, 166, 167, 168, 169, 170, 171, 172, 173, 174, 175, 176, 183, 184, 185, 186, 202, 203, 204, 205, 206, 207, 208, 209, 210, 211, 212, 213, 214, 215, 216, 217, 218, 219, 220, 221, 222, 223, 224, 227, 228, 229, 230, 231, 232, 233, 234, 235, 236, 237, 238, 239, 240, 241, 242, 243, 244, 245, 246, 247, 250, 251, 252, 261, 262, 263, 264, 265, 266, 267, 268, 269, 270, 271, 272, 273, 274, 275, 276, 277, 278, 279, 280, 281, 283, 284, 285, 286, 287, 288, 292, 293, 294, 295, 296, 297, 298, 299, 300, 301, 302, 303, 304, 305, 306, 308, 309, 310, 311, 312, 313, 314, 315]
abbrev qdu : FuncId := 8
abbrev qbd : FuncId := 12
abbrev qek : FuncId := 13
abbrev qby : FuncId := 14
abbrev qcq : FuncId := 18
abbrev qfd : FuncId := 26
abbrev qdj : FuncId := 30
abbrev qau : FuncId := 31
abbrev qbw : FuncId := 54
abbrev qdi : FuncId := 55
abbrev qfc : FuncId := 56
abbrev qed : FuncId := 57
abbrev qfg : FuncId := 65
abbrev f_cfg_Graph : FuncId := 66
abbrev qaz : FuncId := 73
abbrev qan : FuncId := 74
abbrev qbk : FuncId := 75
abbrev qam : FuncId := 76
abbrev qbf : FuncId := 77
abbrev qas : FuncId := 78
abbrev qao : FuncId := 79
abbrev qbj : FuncId := 80
abbrev qff : FuncId := 88
abbrev qck : FuncId := 90
abbrev f_cfg_Defs : FuncId := 110
abbrev qbb : FuncId := 111
abbrev qcd : FuncId := 112
abbrev f_verify_first : FuncId := 141
abbrev qbc : FuncId := 142
abbrev qbt : FuncId := 168
abbrev f_bitset_New : FuncId := 169
abbrev qbx : FuncId := 170
abbrev qax : FuncId := 171
abbrev qbl : FuncId := 172
abbrev qcl : FuncId := 203
abbrev qdh : FuncId := 205
abbrev qci : FuncId := 206
abbrev qfe : FuncId := 209
abbrev f_cfg_inside : FuncId := 232
abbrev qdk : FuncId := 233
abbrev f_bitset_Set_combine : FuncId := 234
abbrev qbn : FuncId := 235
abbrev qbp : FuncId := 236
abbrev qdl : FuncId := 237
abbrev qfz : FuncId := 238
abbrev qem : FuncId := 239
abbrev f_bitset_Set_All_cl1 : FuncId := 241
abbrev qdr : FuncId := 242
abbrev qbs : FuncId := 243
abbrev qdy : FuncId := 265
abbrev qcv : FuncId := 266
abbrev qfu : FuncId := 267
abbrev qej : FuncId := 268
abbrev qel : FuncId := 283
abbrev f_liveness_analysis_succs_cl1 : FuncId := 284
def siteTr : Tr (List (Nat × Nat)) := (.node none (.node none (.node none (.node none (.node none (.node none .leaf (.node none .leaf (.node (some [(2, 1), (3, 1)]) .leaf .leaf))) (.node none (.node none (.node (some [(5, 2)]) (.node (some [(2, 1), (3, 1)]) .leaf .leaf) .leaf) .leaf) (.node (some [(1, 1), (23, 12), (24, 12)]) (.node (some [(5, 2)]) .leaf .leaf) .leaf))) (.node none (.node none .leaf (.node none (.node (some [(2, 1), (8, 2), (14, 11)]) (.node (some [(2, 1), (3, 1)]) .leaf .leaf) .leaf) .leaf)) (.node none (.node none (.node (some [(3, 1), (4, 1), (5, 1)]) .leaf .leaf) .leaf) (.node none (.node (some [(2, 1)]) .leaf .leaf) (.node (some [(2, 1)]) .leaf .leaf))))) (.node none (.node none .leaf (.node none (.node none (.node (some [(2, 1), (3, 1)]) .leaf .leaf) (.node (some [(4, 1), (5, 1), (6, 1), (7, 1)]) .leaf .leaf)) (.node (some [(4, 1)]) .leaf .leaf))) (.node (some [(1, 1), (6, 2), (12, 2)]) (.node (some [(1, 1)]) (.node (some [(2, 1), (3, 1)]) (.node none (.node (some [(3, 1), (4, 1), (5, 1)]) .leaf .leaf) .leaf) (.node (some [(2, 2)]) .leaf .leaf)) (.node none (.node (some [(4, 1), (5, 1)]) .leaf .leaf) .leaf)) (.node none (.node (some [(4, 1), (5, 1), (11, 2)]) .leaf (.node (some [(1, 1)]) .leaf .leaf)) (.node (some [(2, 1)]) .leaf .leaf))))) (.node none (.node (some [(1, 1)]) (.node none (.node (some [(5, 1), (6, 1), (7, 1), (13, 2)]) (.node (some [(2, 1), (30, 1)]) .leaf .leaf) .leaf) (.node none (.node (some [(1, 1)]) (.node (some [(2, 1), (5, 2), (11, 2)]) .leaf .leaf) .leaf) .leaf)) (.node none (.node none (.node none (.node none (.node (some [(2, 1)]) .leaf .leaf) .leaf) .leaf) (.node none (.node (some [(15, 101)]) .leaf .leaf) .leaf)) (.node (some [(1, 1)]) (.node (some [(2, 1), (3, 1)]) (.node (some [(2, 1)]) (.node (some [(3, 1), (5, 1)]) .leaf .leaf) .leaf) .leaf) (.node none (.node (some [(1, 1)]) .leaf .leaf) .leaf)))) (.node none (.node none .leaf (.node none (.node none (.node (some [(2, 1), (3, 1)]) .leaf .leaf) .leaf) .leaf)) (.node none (.node none (.node (some [(2, 1), (3, 1)]) (.node (some [(2, 2)]) .leaf .leaf) .leaf) (.node none (.node (some [(1, 1)]) .leaf .leaf) .leaf)) (.node none (.node none .leaf (.node (some [(2, 1), (3, 1)]) .leaf .leaf)) .leaf))))) (.node none (.node none (.node (some [(2, 1), (3, 1)]) (.node none (.node (some [(3, 1), (4, 1)]) .leaf (.node none .leaf (.node (some [(2, 1)]) .leaf .leaf))) (.node (some [(7, 1)]) (.node (some [(2, 1), (3, 1)]) (.node (some [(5, 2)]) (.node (some [(2, 1), (3, 1)]) .leaf .leaf) .leaf) .leaf) (.node none (.node (some [(4, 1)]) .leaf .leaf) (.node (some [(2, 1), (3, 1)]) .leaf .leaf)))) (.node none (.node none .leaf (.node none (.node (some [(2, 1), (3, 1)]) .leaf .leaf) (.node (some [(2, 1), (3, 1)]) .leaf .leaf))) (.node (some [(1, 1)]) (.node (some [(1, 1), (2, 2)]) (.node (some [(1, 1)]) .leaf .leaf) .leaf) .leaf))) (.node (some [(1, 1)]) (.node (some [(6, 1), (7, 1)]) .leaf (.node none (.node (some [(1, 1)]) .leaf .leaf) (.node (some [(3, 1)]) .leaf .leaf))) (.node (some [(1, 1)]) (.node none (.node none (.node none (.node (some [(5, 1), (6, 1), (7, 1)]) .leaf .leaf) .leaf) (.node (some [(3, 1)]) .leaf .leaf)) (.node none (.node (some [(2, 1)]) .leaf .leaf) (.node (some [(3, 1)]) .leaf .leaf))) (.node none (.node none .leaf (.node (some [(2, 1), (3, 1)]) .leaf .leaf)) (.node (some [(1, 1)]) .leaf .leaf))))) (.node none (.node (some [(2, 1)]) (.node (some [(2, 1), (3, 1)]) (.node (some [(2, 1)]) (.node (some [(1, 1)]) .leaf .leaf) .leaf) (.node none (.node (some [(1, 1)]) .leaf (.node (some [(3, 1), (4, 1)]) .leaf .leaf)) .leaf)) (.node (some [(2, 1), (3, 1)]) .leaf (.node (some [(7, 1), (8, 1), (11, 1)]) (.node (some [(2, 1), (3, 1)]) (.node (some [(3, 1), (4, 1), (5, 1)]) .leaf .leaf) .leaf) (.node none .leaf (.node (some [(2, 1)]) .leaf .leaf))))) (.node (some [(4, 1), (5, 1), (7, 1)]) (.node (some [(3, 1), (4, 1)]) (.node (some [(7, 1)]) .leaf .leaf) (.node (some [(2, 1), (3, 1)]) (.node none (.node (some [(4, 1)]) .leaf .leaf) (.node (some [(2, 1), (3, 1)]) .leaf .leaf)) (.node (some [(3, 1), (7, 2)]) .leaf (.node (some [(1, 1)]) .leaf .leaf)))) (.node none (.node none .leaf (.node (some [(1, 1)]) .leaf (.node (some [(2, 1), (3, 1)]) .leaf .leaf))) (.node none (.node none .leaf (.node (some [(3, 1), (5, 1)]) .leaf .leaf)) .leaf))))))
noncomputable def ctx (l : List (FuncId × FSpec)) (li : List IoT := []) : Ctx := { P := Tryz.prog, ty := tyOf tyN tyTr, gl := gl, env := envOf l, fns := fnsOf fnL, pans := fnsOf [170, 204, 230, 234], site := siteOf siteTr, iok := iokOf [(170, [true, false]), (171, [false, true, false, false]), (237, [true, false]), (239, [true, false])], io := ioOf li, iopin := ioPinOf li }
theorem ty_ok : TyOK Tryz.prog (tyOf tyN tyTr) := chkTy_ok (by kernel_rfl)
theorem fns_ok (l : List (FuncId × FSpec)) (li : List IoT) : FnsOK (ctx l li) := chkFns_ok (by kernel_rfl)
theorem qcz {l : List (FuncId × FSpec)} {li : List IoT} (h : ∀ x ∈ l, qat (ctx []) x.1 x.2) (hi : ∀ x ∈ li, qbg (ctx []) x.1 x.2.1 x.2.2) : EOK (ctx l li) := ⟨ty_ok, envOK_of rfl h, ioOK_of rfl rfl hi, fns_ok l li, by kernel_rfl⟩
theorem E0_ok : EOK (ctx []) := qcz (by simp) (by simp)
end Burn.M24
namespace Burn.M24
open Go Go.BE Go.Proofs
set_option maxRecDepth 100000
set_option linter.unusedVariables false
set_option linter.unusedSimpArgs false
noncomputable abbrev E_X1 : Ctx := ctx []
theorem E_X1_ok : EOK E_X1 := E0_ok
def cuts_X1 : CutL := []
def rets_X1 : FuncId → List (Option Fx)
 | 30 => [some (.dat qaq)]
 | 66 => [some (.dat qde)]
 | 233 => [some (.own 8 I)]
 | _ => []
def H_X1 : Hints := { cut := cutOf cuts_X1, ret := rets_X1 }
def H_X1_u_law24_ReturnParam : Hints := { H_X1 with unr := fun _ _ => true }
def H_X1_u_own_a : Hints := { H_X1 with unr := fun _ _ => true }
def H_X1_u_own_b : Hints := { H_X1 with unr := fun _ _ => true }
def H_X1_u_cfg_Graph : Hints := { H_X1 with unr := fun _ _ => true }
theorem law24_ReturnParam_t : run E_X1 H_X1_u_law24_ReturnParam qdj 1000000 (start E_X1 qdj []) = (rt (.tv qaq (([] : List (Den qar)), ([(⟨#[102]⟩, ([(0 : Int)] : List (Den I)), (3 : Int), ([(3 : Int)] : List (Den I)), ([(([] : List (Den I)), ([] : List (Den qah)), ((4 : Int), ([(0 : Int)] : List (Den I)), ([] : List (Den I)), ([] : List (Den qaf)), (0 : Int), ()), ())] : List (Den qad)), ())] : List (Den qai)), ())) []) := by kernel_rfl
theorem own_a_t : run E_X1 H_X1_u_own_a qdk 1000000 (start E_X1 qdk [(.tv (.sl 8 I) ([(0 : Int)] : List (Den I)))]) = (.chk (((0 : Nat) + (1 : Nat)) * 8 ≤ roomB) (.chk ((1 : Int) = (1 : Int)) (.chk ((1 : Int) = (1 : Int)) (rt (.osl 0 0 [] none) [(0, ⟨(.arr 0 8 I ([(0 : Int)] : List (Den I))), 0, [], false, none⟩)])))) := by kernel_rfl
theorem own_b_t : run E_X1 H_X1_u_own_b qdk 1000000 (start E_X1 qdk [(.tv (.sl 8 I) ([] : List (Den I)))]) = (.chk (((0 : Nat) + (0 : Nat)) * 8 ≤ roomB) (.chk ((0 : Int) = (0 : Int)) (.chk ((0 : Int) = (0 : Int)) (rt (.osl 0 0 [] none) [(0, ⟨(.arr 0 8 I ([] : List (Den I))), 0, [], false, none⟩)])))) := by kernel_rfl
theorem cfg_Graph_t : run E_X1 H_X1_u_cfg_Graph f_cfg_Graph 1000000 (start E_X1 f_cfg_Graph [(.tv qai (⟨#[102]⟩, ([(0 : Int)] : List (Den I)), (3 : Int), ([(3 : Int)] : List (Den I)), ([(([] : List (Den I)), ([] : List (Den qah)), ((4 : Int), ([(0 : Int)] : List (Den I)), ([] : List (Den I)), ([] : List (Den qaf)), (0 : Int), ()), ())] : List (Den qad)), ()))]) = (.chk ((1 : Int) = (1 : Int)) (.chk (0 ≤ (1 : Int)) (.chk ((1 : Nat) * 24 ≤ roomB) (.chk (0 ≤ (0 : Int) ∧ (0 : Int) < (1 : Nat)) (rt (.tv qde (([([] : List (Den I))] : List (Den (.sl 8 I))), ())) []))))) := by kernel_rfl
def k_law24_ReturnParam : LitC := { ps := [], L := (()), res := (.tv qaq (([] : List (Den qar)), ([(⟨#[102]⟩, ([(0 : Int)] : List (Den I)), (3 : Int), ([(3 : Int)] : List (Den I)), ([(([] : List (Den I)), ([] : List (Den qah)), ((4 : Int), ([(0 : Int)] : List (Den I)), ([] : List (Den I)), ([] : List (Den qaf)), (0 : Int), ()), ())] : List (Den qad)), ())] : List (Den qai)), ())), roots := [] }
theorem m_law24_ReturnParam : Runs E_X1 (start E_X1 qdj []) (fun r_ h_ => r_ = (.tv qaq (([] : List (Den qar)), ([(⟨#[102]⟩, ([(0 : Int)] : List (Den I)), (3 : Int), ([(3 : Int)] : List (Den I)), ([(([] : List (Den I)), ([] : List (Den qah)), ((4 : Int), ([(0 : Int)] : List (Den I)), ([] : List (Den I)), ([] : List (Den qaf)), (0 : Int), ()), ())] : List (Den qad)), ())] : List (Den qai)), ())) ∧ h_ = []) := .tree E_X1_ok law24_ReturnParam_t (by
 repeat (first | refine qdb ?_ | refine qev (by first | decide) ?_)
 exact ⟨rfl, rfl⟩)
theorem c_law24_ReturnParam : qat E_X1 qdj k_law24_ReturnParam.spec := qfm rfl ⟨rfl, m_law24_ReturnParam⟩
def k_own_a : LitC := { ps := [.d (.sl 8 I)], L := (([(0 : Int)] : List (Den I)), ()), res := (.osl 0 0 [] none), roots := [(0, ⟨(.arr 0 8 I ([(0 : Int)] : List (Den I))), 0, [], false, none⟩)] }
theorem m_own_a : Runs E_X1 (start E_X1 qdk [(.tv (.sl 8 I) ([(0 : Int)] : List (Den I)))]) (fun r_ h_ => r_ = (.osl 0 0 [] none) ∧ h_ = [(0, ⟨(.arr 0 8 I ([(0 : Int)] : List (Den I))), 0, [], false, none⟩)]) := .tree E_X1_ok own_a_t (by
 repeat (first | refine qdb ?_ | refine qev (by first | decide) ?_)
 exact ⟨rfl, rfl⟩)
theorem c_own_a : qat E_X1 qdk k_own_a.spec := qfm rfl ⟨rfl, m_own_a⟩
def k_own_b : LitC := { ps := [.d (.sl 8 I)], L := (([] : List (Den I)), ()), res := (.osl 0 0 [] none), roots := [(0, ⟨(.arr 0 8 I ([] : List (Den I))), 0, [], false, none⟩)] }
theorem m_own_b : Runs E_X1 (start E_X1 qdk [(.tv (.sl 8 I) ([] : List (Den I)))]) (fun r_ h_ => r_ = (.osl 0 0 [] none) ∧ h_ = [(0, ⟨(.arr 0 8 I ([] : List (Den I))), 0, [], false, none⟩)]) := .tree E_X1_ok own_b_t (by
 repeat (first | refine qdb ?_ | refine qev (by first | decide) ?_)
 exact ⟨rfl, rfl⟩)
theorem c_own_b : qat E_X1 qdk k_own_b.spec := qfm rfl ⟨rfl, m_own_b⟩
def k_cfg_Graph : LitC := { ps := [.d qai], L := ((⟨#[102]⟩, ([(0 : Int)] : List (Den I)), (3 : Int), ([(3 : Int)] : List (Den I)), ([(([] : List (Den I)), ([] : List (Den qah)), ((4 : Int), ([(0 : Int)] : List (Den I)), ([] : List (Den I)), ([] : List (Den qaf)), (0 : Int), ()), ())] : List (Den qad)), ()), ()), res := (.tv qde (([([] : List (Den I))] : List (Den (.sl 8 I))), ())), roots := [] }
theorem m_cfg_Graph : Runs E_X1 (start E_X1 f_cfg_Graph [(.tv qai (⟨#[102]⟩, ([(0 : Int)] : List (Den I)), (3 : Int), ([(3 : Int)] : List (Den I)), ([(([] : List (Den I)), ([] : List (Den qah)), ((4 : Int), ([(0 : Int)] : List (Den I)), ([] : List (Den I)), ([] : List (Den qaf)), (0 : Int), ()), ())] : List (Den qad)), ()))]) (fun r_ h_ => r_ = (.tv qde (([([] : List (Den I))] : List (Den (.sl 8 I))), ())) ∧ h_ = []) := .tree E_X1_ok cfg_Graph_t (by
 repeat (first | refine qdb ?_ | refine qev (by first | decide) ?_)
 exact ⟨rfl, rfl⟩)
theorem c_cfg_Graph : qat E_X1 f_cfg_Graph k_cfg_Graph.spec := qfm rfl ⟨rfl, m_cfg_Graph⟩
def L_X1 : List (FuncId × FSpec) := [(qdj, k_law24_ReturnParam.spec), (qdk, k_own_a.spec), (qdk, k_own_b.spec), (f_cfg_Graph, k_cfg_Graph.spec)] ++ []
theorem L_X1_ok : ∀ x ∈ L_X1, qat (ctx []) x.1 x.2 := by
 unfold L_X1
 simp only [List.cons_append, List.nil_append, List.forall_mem_cons]
 exact ⟨c_law24_ReturnParam, c_own_a, c_own_b, c_cfg_Graph, by simp⟩
def LI_X1 : List IoT := [] ++ []
theorem LI_X1_ok : ∀ x ∈ LI_X1, qbg (ctx []) x.1 x.2.1 x.2.2 := by
 unfold LI_X1
 simp only [List.cons_append, List.nil_append, List.forall_mem_cons]
 exact by simp
end Burn.M24
namespace Burn.M24
open Go Go.BE Go.Proofs
set_option maxRecDepth 100000
set_option linter.unusedVariables false
set_option linter.unusedSimpArgs false
noncomputable abbrev E_X2 : Ctx := ctx L_X1 LI_X1
theorem E_X2_ok : EOK E_X2 := qcz L_X1_ok LI_X1_ok
def cuts_X2 : CutL := []
def rets_X2 : FuncId → List (Option Fx)
 | 65 => [some (.dat (.sl 8 I))]
 | 168 => [some (.dat (.sl 8 I))]
 | _ => []
def H_X2 : Hints := { cut := cutOf cuts_X2, ret := rets_X2 }
def H_X2_u_wr_a : Hints := { H_X2 with unr := fun _ _ => true }
def H_X2_u_wr_b : Hints := { H_X2 with unr := fun _ _ => true }
def H_X2_u_domtree_Build : Hints := { H_X2 with unr := fun _ _ => true }
theorem wr_a_t : run E_X2 H_X2_u_wr_a qbt 1000000 (start E_X2 qbt [(.tv qai (⟨#[102]⟩, ([(0 : Int)] : List (Den I)), (3 : Int), ([(3 : Int)] : List (Den I)), ([(([] : List (Den I)), ([] : List (Den qah)), ((4 : Int), ([(0 : Int)] : List (Den I)), ([] : List (Den I)), ([] : List (Den qaf)), (0 : Int), ()), ())] : List (Den qad)), ())), (.tv qak ((0 : Int), (-1 : Int), ()))]) = (.chk (0 ≤ (0 : Int) ∧ (0 : Int) < (1 : Nat)) (.chk (0 ≤ (0 : Int) ∧ (0 : Int) < (1 : Nat)) (.chk (True) (.chk (((1 : Nat) + (0 : Nat)) * 8 ≤ roomB) (.know True (rt (.tv (.sl 8 I) ([(0 : Int)] : List (Den I))) [])))))) := by kernel_rfl
theorem wr_b_t : run E_X2 H_X2_u_wr_b qbt 1000000 (start E_X2 qbt [(.tv qai (⟨#[102]⟩, ([(0 : Int)] : List (Den I)), (3 : Int), ([(3 : Int)] : List (Den I)), ([(([] : List (Den I)), ([] : List (Den qah)), ((4 : Int), ([(0 : Int)] : List (Den I)), ([] : List (Den I)), ([] : List (Den qaf)), (0 : Int), ()), ())] : List (Den qad)), ())), (.tv qak ((0 : Int), (0 : Int), ()))]) = (.chk (0 ≤ (0 : Int) ∧ (0 : Int) < (1 : Nat)) (.chk (0 ≤ (0 : Int) ∧ (0 : Int) < (1 : Nat)) (rt (.tv (.sl 8 I) ([] : List (Den I))) []))) := by kernel_rfl
theorem domtree_Build_t : run E_X2 H_X2_u_domtree_Build qfg 1000000 (start E_X2 qfg [(.tv qde (([([] : List (Den I))] : List (Den (.sl 8 I))), ())), (vi (0 : Int))]) = (.chk (0 ≤ (0 : Int) ∧ (0 : Int) < (1 : Nat)) (.chk ((0 : Nat) < (1 : Nat)) (.chk (0 ≤ (0 : Int) ∧ (0 : Int) < (1 : Nat)) (.chk ((64 : Int) ≠ 0) (.chk ((1 : Int) = (1 : Int)) (.chk (0 ≤ (1 : Int)) (.chk ((1 : Nat) * 8 ≤ roomB) (.chk (0 ≤ (0 : Int) ∧ (0 : Int) < (1 : Nat)) (.chk ((0 : Nat) < (1 : Nat)) (.chk ((0 : Nat) < (1 : Nat)) (.chk ((0 : Nat) < (1 : Nat)) (.chk ((0 : Nat) < (1 : Nat)) (.chk ((0 : Nat) < (1 : Nat)) (.chk ((0 : Nat) < (1 : Nat)) (.chk ((64 : Int) ≠ 0) (.chk ((0 : Nat) < (1 : Nat)) (.chk (0 ≤ (0 : Int) ∧ (0 : Int) < (1 : Nat)) (.chk ((0 : Nat) < (1 : Nat)) (.chk ((0 : Nat) < (1 : Nat)) (.chk ((64 : Int) ≠ 0) (.chk (0 ≤ (0 : Int)) (.chk ((0 : Nat) < (1 : Nat)) (.chk ((64 : Int) ≠ 0) (.chk ((0 : Nat) < (1 : Nat)) (.chk (0 ≤ (0 : Int) ∧ (0 : Int) < (1 : Nat)) (.chk ((0 : Nat) < (1 : Nat)) (.chk ((0 : Nat) < (1 : Nat)) (.chk ((64 : Int) ≠ 0) (.chk (0 ≤ (0 : Int)) (.chk ((0 : Nat) < (1 : Nat)) (.chk (0 ≤ (0 : Int) ∧ (0 : Int) < (1 : Nat)) (.chk ((0 : Nat) < (1 : Nat)) (.chk ((0 : Nat) < (1 : Nat)) (.chk (0 ≤ (0 : Int) ∧ (0 : Int) < (1 : Nat)) (.chk ((0 : Nat) < (1 : Nat)) (.chk ((0 : Nat) < (1 : Nat)) (.chk (0 ≤ (0 : Int) ∧ (0 : Int) < (1 : Nat)) (.chk ((0 : Nat) < (1 : Nat)) (.chk ((1 : Nat) * 8 ≤ roomB) (.chk (0 ≤ (0 : Int) ∧ (0 : Int) ≤ (0 : Int) ∧ (0 : Int) ≤ (1 : Int)) (.chk (0 ≤ (0 : Int) ∧ (0 : Int) < (1 : Nat)) (.chk ((1 : Int) = (1 : Int)) (.chk (0 ≤ (1 : Int)) (.chk ((1 : Nat) * 24 ≤ roomB) (.chk (0 ≤ (0 : Int) ∧ (0 : Int) < (1 : Nat)) (.chk ((1 : Int) = (1 : Int)) (.chk (0 ≤ (1 : Int)) (.chk ((1 : Nat) * 8 ≤ roomB) (.chk (0 ≤ (0 : Int) ∧ (0 : Int) < (1 : Nat)) (.chk ((0 : Nat) < (1 : Nat)) (.chk ((1 : Int) = (1 : Int)) (.chk (0 ≤ (1 : Int)) (.chk ((1 : Nat) * 8 ≤ roomB) (.chk (0 ≤ (0 : Int) ∧ (0 : Int) < (1 : Nat)) (.chk ((0 : Nat) < (1 : Nat)) (.chk (0 ≤ (0 : Int) ∧ (0 : Int) < (1 : Nat)) (.chk ((0 : Nat) < (1 : Nat)) (.chk (0 ≤ (0 : Int) ∧ (0 : Int) < (1 : Nat)) (.chk ((0 : Nat) < (1 : Nat)) (.chk (0 ≤ (0 : Int) ∧ (0 : Int) < (1 : Nat)) (.chk ((0 : Nat) < (1 : Nat)) (.chk (0 ≤ (1 : Int) ∧ (1 : Int) ≤ (1 : Int) ∧ (1 : Int) ≤ (1 : Int)) (rt (.tv (.sl 8 I) ([(0 : Int)] : List (Den I))) []))))))))))))))))))))))))))))))))))))))))))))))))))))))))))))))) := by kernel_rfl
def k_wr_a : LitC := { ps := [.d qai, .d qak], L := ((⟨#[102]⟩, ([(0 : Int)] : List (Den I)), (3 : Int), ([(3 : Int)] : List (Den I)), ([(([] : List (Den I)), ([] : List (Den qah)), ((4 : Int), ([(0 : Int)] : List (Den I)), ([] : List (Den I)), ([] : List (Den qaf)), (0 : Int), ()), ())] : List (Den qad)), ()), ((0 : Int), (-1 : Int), ()), ()), res := (.tv (.sl 8 I) ([(0 : Int)] : List (Den I))), roots := [] }
theorem m_wr_a : Runs E_X2 (start E_X2 qbt [(.tv qai (⟨#[102]⟩, ([(0 : Int)] : List (Den I)), (3 : Int), ([(3 : Int)] : List (Den I)), ([(([] : List (Den I)), ([] : List (Den qah)), ((4 : Int), ([(0 : Int)] : List (Den I)), ([] : List (Den I)), ([] : List (Den qaf)), (0 : Int), ()), ())] : List (Den qad)), ())), (.tv qak ((0 : Int), (-1 : Int), ()))]) (fun r_ h_ => r_ = (.tv (.sl 8 I) ([(0 : Int)] : List (Den I))) ∧ h_ = []) := .tree E_X2_ok wr_a_t (by
 repeat (first | refine qdb ?_ | refine qev (by first | decide) ?_)
 exact ⟨rfl, rfl⟩)
theorem c_wr_a : qat E_X2 qbt k_wr_a.spec := qfm rfl ⟨rfl, m_wr_a⟩
def k_wr_b : LitC := { ps := [.d qai, .d qak], L := ((⟨#[102]⟩, ([(0 : Int)] : List (Den I)), (3 : Int), ([(3 : Int)] : List (Den I)), ([(([] : List (Den I)), ([] : List (Den qah)), ((4 : Int), ([(0 : Int)] : List (Den I)), ([] : List (Den I)), ([] : List (Den qaf)), (0 : Int), ()), ())] : List (Den qad)), ()), ((0 : Int), (0 : Int), ()), ()), res := (.tv (.sl 8 I) ([] : List (Den I))), roots := [] }
theorem m_wr_b : Runs E_X2 (start E_X2 qbt [(.tv qai (⟨#[102]⟩, ([(0 : Int)] : List (Den I)), (3 : Int), ([(3 : Int)] : List (Den I)), ([(([] : List (Den I)), ([] : List (Den qah)), ((4 : Int), ([(0 : Int)] : List (Den I)), ([] : List (Den I)), ([] : List (Den qaf)), (0 : Int), ()), ())] : List (Den qad)), ())), (.tv qak ((0 : Int), (0 : Int), ()))]) (fun r_ h_ => r_ = (.tv (.sl 8 I) ([] : List (Den I))) ∧ h_ = []) := .tree E_X2_ok wr_b_t (by
 repeat (first | refine qdb ?_ | refine qev (by first | decide) ?_)
 exact ⟨rfl, rfl⟩)
theorem c_wr_b : qat E_X2 qbt k_wr_b.spec := qfm rfl ⟨rfl, m_wr_b⟩
def k_domtree_Build : LitC := { ps := [.d qde, .d I], L := ((([([] : List (Den I))] : List (Den (.sl 8 I))), ()), (0 : Int), ()), res := (.tv (.sl 8 I) ([(0 : Int)] : List (Den I))), roots := [] }
theorem m_domtree_Build : Runs E_X2 (start E_X2 qfg [(.tv qde (([([] : List (Den I))] : List (Den (.sl 8 I))), ())), (vi (0 : Int))]) (fun r_ h_ => r_ = (.tv (.sl 8 I) ([(0 : Int)] : List (Den I))) ∧ h_ = []) := .tree E_X2_ok domtree_Build_t (by
 repeat (first | refine qdb ?_ | refine qev (by first | decide) ?_)
 exact ⟨rfl, rfl⟩)
theorem c_domtree_Build : qat E_X2 qfg k_domtree_Build.spec := qfm rfl ⟨rfl, m_domtree_Build⟩
def L_X2 : List (FuncId × FSpec) := [(qbt, k_wr_a.spec), (qbt, k_wr_b.spec), (qfg, k_domtree_Build.spec)] ++ L_X1
theorem L_X2_ok : ∀ x ∈ L_X2, qat (ctx []) x.1 x.2 := by
 unfold L_X2
 simp only [List.cons_append, List.nil_append, List.forall_mem_cons]
 exact ⟨c_wr_a, c_wr_b, c_domtree_Build, L_X1_ok⟩
def LI_X2 : List IoT := [] ++ LI_X1
theorem LI_X2_ok : ∀ x ∈ LI_X2, qbg (ctx []) x.1 x.2.1 x.2.2 := by
 unfold LI_X2
 simp only [List.cons_append, List.nil_append, List.forall_mem_cons]
 exact LI_X1_ok
end Burn.M24
namespace Burn.M24
open Go Go.BE Go.Proofs
set_option maxRecDepth 100000
set_option linter.unusedVariables false
set_option linter.unusedSimpArgs false
noncomputable abbrev E_X3 : Ctx := ctx L_X2 LI_X2
theorem E_X3_ok : EOK E_X3 := qcz L_X2_ok LI_X2_ok
def cuts_X3 : CutL := []
def rets_X3 : FuncId → List (Option Fx)
 | 110 => [some (.dat (.sl 24 (.sl 16 qak)))]
 | _ => []
def H_X3 : Hints := { cut := cutOf cuts_X3, ret := rets_X3 }
def H_X3_u_cfg_Defs : Hints := { H_X3 with unr := fun _ _ => true }
theorem cfg_Defs_t : run E_X3 H_X3_u_cfg_Defs f_cfg_Defs 1000000 (start E_X3 f_cfg_Defs [(.tv qai (⟨#[102]⟩, ([(0 : Int)] : List (Den I)), (3 : Int), ([(3 : Int)] : List (Den I)), ([(([] : List (Den I)), ([] : List (Den qah)), ((4 : Int), ([(0 : Int)] : List (Den I)), ([] : List (Den I)), ([] : List (Den qaf)), (0 : Int), ()), ())] : List (Den qad)), ()))]) = (.chk ((1 : Int) = (1 : Int)) (.chk (0 ≤ (1 : Int)) (.chk ((1 : Nat) * 24 ≤ roomB) (.chk (0 ≤ (0 : Int) ∧ (0 : Int) < (1 : Nat)) (.chk ((0 : Nat) < (1 : Nat)) (.chk ((0 : Nat) < (1 : Nat)) (.chk (True) (.know (okD (.sl 8 I) ([(0 : Int)] : List (Den I))) (.chk (0 ≤ (0 : Int) ∧ (0 : Int) < (1 : Nat)) (.chk (0 ≤ (0 : Int) ∧ (0 : Int) < (1 : Nat)) (.chk ((0 : Nat) < (1 : Nat)) (.chk ((0 : Nat) < (1 : Nat)) (.chk (0 ≤ (0 : Int) ∧ (0 : Int) < (1 : Nat)) (.chk ((0 : Nat) < (1 : Nat)) (.chk ((0 : Nat) < (1 : Nat)) (.chk ((0 : Nat) < (1 : Nat)) (.chk (((0 : Nat) + (1 : Nat)) * 16 ≤ roomB) (.chk (0 ≤ (0 : Int) ∧ (0 : Int) < (1 : Nat)) (.chk ((0 : Nat) = (0 : Nat)) (.chk ((0 : Nat) = (0 : Nat)) (.chk (0 ≤ (0 : Int) ∧ (0 : Int) < (1 : Nat)) (.chk ((0 : Nat) < (1 : Nat)) (.chk ((0 : Nat) < (1 : Nat)) (.chk (True) (.know (okD (.sl 8 I) ([] : List (Den I))) (.chk (0 ≤ (0 : Int) ∧ (0 : Int) < (1 : Nat)) (rt (.tv (.sl 24 (.sl 16 qak)) ([([((0 : Int), (-1 : Int), ())] : List (Den qak))] : List (Den (.sl 16 qak)))) []))))))))))))))))))))))))))) := by kernel_rfl
def k_cfg_Defs : LitC := { ps := [.d qai], L := ((⟨#[102]⟩, ([(0 : Int)] : List (Den I)), (3 : Int), ([(3 : Int)] : List (Den I)), ([(([] : List (Den I)), ([] : List (Den qah)), ((4 : Int), ([(0 : Int)] : List (Den I)), ([] : List (Den I)), ([] : List (Den qaf)), (0 : Int), ()), ())] : List (Den qad)), ()), ()), res := (.tv (.sl 24 (.sl 16 qak)) ([([((0 : Int), (-1 : Int), ())] : List (Den qak))] : List (Den (.sl 16 qak)))), roots := [] }
theorem m_cfg_Defs : Runs E_X3 (start E_X3 f_cfg_Defs [(.tv qai (⟨#[102]⟩, ([(0 : Int)] : List (Den I)), (3 : Int), ([(3 : Int)] : List (Den I)), ([(([] : List (Den I)), ([] : List (Den qah)), ((4 : Int), ([(0 : Int)] : List (Den I)), ([] : List (Den I)), ([] : List (Den qaf)), (0 : Int), ()), ())] : List (Den qad)), ()))]) (fun r_ h_ => r_ = (.tv (.sl 24 (.sl 16 qak)) ([([((0 : Int), (-1 : Int), ())] : List (Den qak))] : List (Den (.sl 16 qak)))) ∧ h_ = []) := .tree E_X3_ok cfg_Defs_t (by
 repeat (first | refine qdb ?_ | refine qev (by first | decide) ?_)
 exact ⟨rfl, rfl⟩)
theorem c_cfg_Defs : qat E_X3 f_cfg_Defs k_cfg_Defs.spec := qfm rfl ⟨rfl, m_cfg_Defs⟩
def L_X3 : List (FuncId × FSpec) := [(f_cfg_Defs, k_cfg_Defs.spec)] ++ L_X2
theorem L_X3_ok : ∀ x ∈ L_X3, qat (ctx []) x.1 x.2 := by
 unfold L_X3
 simp only [List.cons_append, List.nil_append, List.forall_mem_cons]
 exact ⟨c_cfg_Defs, L_X2_ok⟩
def LI_X3 : List IoT := [] ++ LI_X2
theorem LI_X3_ok : ∀ x ∈ LI_X3, qbg (ctx []) x.1 x.2.1 x.2.2 := by
 unfold LI_X3
 simp only [List.cons_append, List.nil_append, List.forall_mem_cons]
 exact LI_X2_ok
end Burn.M24
namespace Burn.M24
open Go Go.BE Go.Proofs
set_option maxRecDepth 100000
set_option linter.unusedVariables false
set_option linter.unusedSimpArgs false
noncomputable abbrev E_X4 : Ctx := ctx L_X3 LI_X3
theorem E_X4_ok : EOK E_X4 := qcz L_X3_ok LI_X3_ok
def cuts_X4 : CutL := []
def rets_X4 : FuncId → List (Option Fx)
 | 56 => [some (.dat qdd)]
 | _ => []
def H_X4 : Hints := { cut := cutOf cuts_X4, ret := rets_X4 }
def H_X4_u_witness_known : Hints := { H_X4 with unr := fun _ _ => true }
theorem witness_known_t : run E_X4 H_X4_u_witness_known qfc 1000000 (start E_X4 qfc [(.tv qai (⟨#[102]⟩, ([(0 : Int)] : List (Den I)), (3 : Int), ([(3 : Int)] : List (Den I)), ([(([] : List (Den I)), ([] : List (Den qah)), ((4 : Int), ([(0 : Int)] : List (Den I)), ([] : List (Den I)), ([] : List (Den qaf)), (0 : Int), ()), ())] : List (Den qad)), ()))]) = (.chk (True) (.chk (True) (.chk (True) (.know (okD qde (([([] : List (Den I))] : List (Den (.sl 8 I))), ())) (.know (okD (.sl 8 I) ([(0 : Int)] : List (Den I))) (.know (okD (.sl 24 (.sl 16 qak)) ([([((0 : Int), (-1 : Int), ())] : List (Den qak))] : List (Den (.sl 16 qak)))) (rt (.tv qdd ((⟨#[102]⟩, ([(0 : Int)] : List (Den I)), (3 : Int), ([(3 : Int)] : List (Den I)), ([(([] : List (Den I)), ([] : List (Den qah)), ((4 : Int), ([(0 : Int)] : List (Den I)), ([] : List (Den I)), ([] : List (Den qaf)), (0 : Int), ()), ())] : List (Den qad)), ()), ([(0 : Int)] : List (Den I)), ([([((0 : Int), (-1 : Int), ())] : List (Den qak))] : List (Den (.sl 16 qak))), ())) []))))))) := by kernel_rfl
def k_witness_known : LitC := { ps := [.d qai], L := ((⟨#[102]⟩, ([(0 : Int)] : List (Den I)), (3 : Int), ([(3 : Int)] : List (Den I)), ([(([] : List (Den I)), ([] : List (Den qah)), ((4 : Int), ([(0 : Int)] : List (Den I)), ([] : List (Den I)), ([] : List (Den qaf)), (0 : Int), ()), ())] : List (Den qad)), ()), ()), res := (.tv qdd ((⟨#[102]⟩, ([(0 : Int)] : List (Den I)), (3 : Int), ([(3 : Int)] : List (Den I)), ([(([] : List (Den I)), ([] : List (Den qah)), ((4 : Int), ([(0 : Int)] : List (Den I)), ([] : List (Den I)), ([] : List (Den qaf)), (0 : Int), ()), ())] : List (Den qad)), ()), ([(0 : Int)] : List (Den I)), ([([((0 : Int), (-1 : Int), ())] : List (Den qak))] : List (Den (.sl 16 qak))), ())), roots := [] }
theorem m_witness_known : Runs E_X4 (start E_X4 qfc [(.tv qai (⟨#[102]⟩, ([(0 : Int)] : List (Den I)), (3 : Int), ([(3 : Int)] : List (Den I)), ([(([] : List (Den I)), ([] : List (Den qah)), ((4 : Int), ([(0 : Int)] : List (Den I)), ([] : List (Den I)), ([] : List (Den qaf)), (0 : Int), ()), ())] : List (Den qad)), ()))]) (fun r_ h_ => r_ = (.tv qdd ((⟨#[102]⟩, ([(0 : Int)] : List (Den I)), (3 : Int), ([(3 : Int)] : List (Den I)), ([(([] : List (Den I)), ([] : List (Den qah)), ((4 : Int), ([(0 : Int)] : List (Den I)), ([] : List (Den I)), ([] : List (Den qaf)), (0 : Int), ()), ())] : List (Den qad)), ()), ([(0 : Int)] : List (Den I)), ([([((0 : Int), (-1 : Int), ())] : List (Den qak))] : List (Den (.sl 16 qak))), ())) ∧ h_ = []) := .tree E_X4_ok witness_known_t (by
 repeat (first | refine qdb ?_ | refine qev (by first | decide) ?_)
 exact ⟨rfl, rfl⟩)
theorem c_witness_known : qat E_X4 qfc k_witness_known.spec := qfm rfl ⟨rfl, m_witness_known⟩
def L_X4 : List (FuncId × FSpec) := [(qfc, k_witness_known.spec)] ++ L_X3
theorem L_X4_ok : ∀ x ∈ L_X4, qat (ctx []) x.1 x.2 := by
 unfold L_X4
 simp only [List.cons_append, List.nil_append, List.forall_mem_cons]
 exact ⟨c_witness_known, L_X3_ok⟩
def LI_X4 : List IoT := [] ++ LI_X3
theorem LI_X4_ok : ∀ x ∈ LI_X4, qbg (ctx []) x.1 x.2.1 x.2.2 := by
 unfold LI_X4
 simp only [List.cons_append, List.nil_append, List.forall_mem_cons]
 exact LI_X3_ok
end Burn.M24
namespace Burn.M24
open Go Go.BE Go.Proofs
set_option maxRecDepth 100000
set_option linter.unusedVariables false
set_option linter.unusedSimpArgs false
noncomputable abbrev E_X5 : Ctx := ctx L_X4 LI_X4
theorem E_X5_ok : EOK E_X5 := qcz L_X4_ok LI_X4_ok
def cuts_X5 : CutL := []
def rets_X5 : FuncId → List (Option Fx)
 | _ => []
def H_X5 : Hints := { cut := cutOf cuts_X5, ret := rets_X5 }
def H_X5_u_verify_identifier : Hints := { H_X5 with unr := fun _ _ => true }
def H_X5_u_hs : Hints := { H_X5 with unr := fun _ _ => true }
def H_X5_u_ty3 : Hints := { H_X5 with unr := fun _ _ => true }
def H_X5_u_hi : Hints := { H_X5 with unr := fun _ _ => true }
def H_X5_u_reg0 : Hints := { H_X5 with unr := fun _ _ => true }
theorem verify_identifier_t : run E_X5 H_X5_u_verify_identifier qdh 1000000 (start E_X5 qdh [(vs (⟨#[102]⟩))]) = (rt (vb true) []) := by kernel_rfl
theorem hs_t : run E_X5 H_X5_u_hs qci 1000000 (start E_X5 qci [(.tv (.sl 16 .str) ([] : List (Den .str))), (vs (⟨#[102]⟩))]) = (rt (vb false) []) := by kernel_rfl
theorem ty3_t : run E_X5 H_X5_u_ty3 qfe 1000000 (start E_X5 qfe [(vi (3 : Int))]) = (rt (vb true) []) := by kernel_rfl
theorem hi_t : run E_X5 H_X5_u_hi qcv 1000000 (start E_X5 qcv [(.tv (.sl 8 I) ([] : List (Den I))), (vi (0 : Int))]) = (rt (vb false) []) := by kernel_rfl
theorem reg0_t : run E_X5 H_X5_u_reg0 qdy 1000000 (start E_X5 qdy [(.tv qai (⟨#[102]⟩, ([(0 : Int)] : List (Den I)), (3 : Int), ([(3 : Int)] : List (Den I)), ([(([] : List (Den I)), ([] : List (Den qah)), ((4 : Int), ([(0 : Int)] : List (Den I)), ([] : List (Den I)), ([] : List (Den qaf)), (0 : Int), ()), ())] : List (Den qad)), ())), (vi (0 : Int))]) = (rt (vb true) []) := by kernel_rfl
def k_verify_identifier : LitC := { ps := [.d .str], L := (⟨#[102]⟩, ()), res := (vb true), roots := [] }
theorem m_verify_identifier : Runs E_X5 (start E_X5 qdh [(vs (⟨#[102]⟩))]) (fun r_ h_ => r_ = (vb true) ∧ h_ = []) := .tree E_X5_ok verify_identifier_t (by
 repeat (first | refine qdb ?_ | refine qev (by first | decide) ?_)
 exact ⟨rfl, rfl⟩)
theorem c_verify_identifier : qat E_X5 qdh k_verify_identifier.spec := qfm rfl ⟨rfl, m_verify_identifier⟩
def k_hs : LitC := { ps := [.d (.sl 16 .str), .d .str], L := (([] : List (Den .str)), ⟨#[102]⟩, ()), res := (vb false), roots := [] }
theorem m_hs : Runs E_X5 (start E_X5 qci [(.tv (.sl 16 .str) ([] : List (Den .str))), (vs (⟨#[102]⟩))]) (fun r_ h_ => r_ = (vb false) ∧ h_ = []) := .tree E_X5_ok hs_t (by
 repeat (first | refine qdb ?_ | refine qev (by first | decide) ?_)
 exact ⟨rfl, rfl⟩)
theorem c_hs : qat E_X5 qci k_hs.spec := qfm rfl ⟨rfl, m_hs⟩
def k_ty3 : LitC := { ps := [.d I], L := ((3 : Int), ()), res := (vb true), roots := [] }
theorem m_ty3 : Runs E_X5 (start E_X5 qfe [(vi (3 : Int))]) (fun r_ h_ => r_ = (vb true) ∧ h_ = []) := .tree E_X5_ok ty3_t (by
 repeat (first | refine qdb ?_ | refine qev (by first | decide) ?_)
 exact ⟨rfl, rfl⟩)
theorem c_ty3 : qat E_X5 qfe k_ty3.spec := qfm rfl ⟨rfl, m_ty3⟩
def k_hi : LitC := { ps := [.d (.sl 8 I), .d I], L := (([] : List (Den I)), (0 : Int), ()), res := (vb false), roots := [] }
theorem m_hi : Runs E_X5 (start E_X5 qcv [(.tv (.sl 8 I) ([] : List (Den I))), (vi (0 : Int))]) (fun r_ h_ => r_ = (vb false) ∧ h_ = []) := .tree E_X5_ok hi_t (by
 repeat (first | refine qdb ?_ | refine qev (by first | decide) ?_)
 exact ⟨rfl, rfl⟩)
theorem c_hi : qat E_X5 qcv k_hi.spec := qfm rfl ⟨rfl, m_hi⟩
def k_reg0 : LitC := { ps := [.d qai, .d I], L := ((⟨#[102]⟩, ([(0 : Int)] : List (Den I)), (3 : Int), ([(3 : Int)] : List (Den I)), ([(([] : List (Den I)), ([] : List (Den qah)), ((4 : Int), ([(0 : Int)] : List (Den I)), ([] : List (Den I)), ([] : List (Den qaf)), (0 : Int), ()), ())] : List (Den qad)), ()), (0 : Int), ()), res := (vb true), roots := [] }
theorem m_reg0 : Runs E_X5 (start E_X5 qdy [(.tv qai (⟨#[102]⟩, ([(0 : Int)] : List (Den I)), (3 : Int), ([(3 : Int)] : List (Den I)), ([(([] : List (Den I)), ([] : List (Den qah)), ((4 : Int), ([(0 : Int)] : List (Den I)), ([] : List (Den I)), ([] : List (Den qaf)), (0 : Int), ()), ())] : List (Den qad)), ())), (vi (0 : Int))]) (fun r_ h_ => r_ = (vb true) ∧ h_ = []) := .tree E_X5_ok reg0_t (by
 repeat (first | refine qdb ?_ | refine qev (by first | decide) ?_)
 exact ⟨rfl, rfl⟩)
theorem c_reg0 : qat E_X5 qdy k_reg0.spec := qfm rfl ⟨rfl, m_reg0⟩
def L_X5 : List (FuncId × FSpec) := [(qdh, k_verify_identifier.spec), (qci, k_hs.spec), (qfe, k_ty3.spec), (qcv, k_hi.spec), (qdy, k_reg0.spec)] ++ L_X4
theorem L_X5_ok : ∀ x ∈ L_X5, qat (ctx []) x.1 x.2 := by
 unfold L_X5
 simp only [List.cons_append, List.nil_append, List.forall_mem_cons]
 exact ⟨c_verify_identifier, c_hs, c_ty3, c_hi, c_reg0, L_X4_ok⟩
def LI_X5 : List IoT := [] ++ LI_X4
theorem LI_X5_ok : ∀ x ∈ LI_X5, qbg (ctx []) x.1 x.2.1 x.2.2 := by
 unfold LI_X5
 simp only [List.cons_append, List.nil_append, List.forall_mem_cons]
 exact LI_X4_ok
end Burn.M24
namespace Burn.M24
open Go Go.BE Go.Proofs
set_option maxRecDepth 100000
set_option linter.unusedVariables false
set_option linter.unusedSimpArgs false
noncomputable abbrev E_X5b : Ctx := ctx L_X5 LI_X5
theorem E_X5b_ok : EOK E_X5b := qcz L_X5_ok LI_X5_ok
def cuts_X5b : CutL := []
def rets_X5b : FuncId → List (Option Fx)
 | _ => []
def H_X5b : Hints := { cut := cutOf cuts_X5b, ret := rets_X5b }
def H_X5b_u_verify_shape : Hints := { H_X5b with unr := fun _ _ => true }
def H_X5b_u_verify_operand : Hints := { H_X5b with unr := fun _ _ => true }
theorem verify_shape_t : run E_X5b H_X5b_u_verify_shape qfu 1000000 (start E_X5b qfu [(.tv qaq (([] : List (Den qar)), ([(⟨#[102]⟩, ([(0 : Int)] : List (Den I)), (3 : Int), ([(3 : Int)] : List (Den I)), ([(([] : List (Den I)), ([] : List (Den qah)), ((4 : Int), ([(0 : Int)] : List (Den I)), ([] : List (Den I)), ([] : List (Den qaf)), (0 : Int), ()), ())] : List (Den qad)), ())] : List (Den qai)), ())), (.tv qai (⟨#[102]⟩, ([(0 : Int)] : List (Den I)), (3 : Int), ([(3 : Int)] : List (Den I)), ([(([] : List (Den I)), ([] : List (Den qah)), ((4 : Int), ([(0 : Int)] : List (Den I)), ([] : List (Den I)), ([] : List (Den qaf)), (0 : Int), ()), ())] : List (Den qad)), ())), (.tv qca ((4 : Int), ([(0 : Int)] : List (Den I)), ([] : List (Den I)), ([] : List (Den qaf)), (0 : Int), ()))]) = (rt (vb true) []) := by kernel_rfl
theorem verify_operand_t : run E_X5b H_X5b_u_verify_operand qej 1000000 (start E_X5b qej [(.tv qaq (([] : List (Den qar)), ([(⟨#[102]⟩, ([(0 : Int)] : List (Den I)), (3 : Int), ([(3 : Int)] : List (Den I)), ([(([] : List (Den I)), ([] : List (Den qah)), ((4 : Int), ([(0 : Int)] : List (Den I)), ([] : List (Den I)), ([] : List (Den qaf)), (0 : Int), ()), ())] : List (Den qad)), ())] : List (Den qai)), ())), (.tv qai (⟨#[102]⟩, ([(0 : Int)] : List (Den I)), (3 : Int), ([(3 : Int)] : List (Den I)), ([(([] : List (Den I)), ([] : List (Den qah)), ((4 : Int), ([(0 : Int)] : List (Den I)), ([] : List (Den I)), ([] : List (Den qaf)), (0 : Int), ()), ())] : List (Den qad)), ())), (.tv qca ((4 : Int), ([(0 : Int)] : List (Den I)), ([] : List (Den I)), ([] : List (Den qaf)), (0 : Int), ())), (vi (0 : Int)), (vi (3 : Int))]) = (rt (vb true) []) := by kernel_rfl
def k_verify_shape : LitC := { ps := [.d qaq, .d qai, .d qca], L := ((([] : List (Den qar)), ([(⟨#[102]⟩, ([(0 : Int)] : List (Den I)), (3 : Int), ([(3 : Int)] : List (Den I)), ([(([] : List (Den I)), ([] : List (Den qah)), ((4 : Int), ([(0 : Int)] : List (Den I)), ([] : List (Den I)), ([] : List (Den qaf)), (0 : Int), ()), ())] : List (Den qad)), ())] : List (Den qai)), ()), (⟨#[102]⟩, ([(0 : Int)] : List (Den I)), (3 : Int), ([(3 : Int)] : List (Den I)), ([(([] : List (Den I)), ([] : List (Den qah)), ((4 : Int), ([(0 : Int)] : List (Den I)), ([] : List (Den I)), ([] : List (Den qaf)), (0 : Int), ()), ())] : List (Den qad)), ()), ((4 : Int), ([(0 : Int)] : List (Den I)), ([] : List (Den I)), ([] : List (Den qaf)), (0 : Int), ()), ()), res := (vb true), roots := [] }
theorem m_verify_shape : Runs E_X5b (start E_X5b qfu [(.tv qaq (([] : List (Den qar)), ([(⟨#[102]⟩, ([(0 : Int)] : List (Den I)), (3 : Int), ([(3 : Int)] : List (Den I)), ([(([] : List (Den I)), ([] : List (Den qah)), ((4 : Int), ([(0 : Int)] : List (Den I)), ([] : List (Den I)), ([] : List (Den qaf)), (0 : Int), ()), ())] : List (Den qad)), ())] : List (Den qai)), ())), (.tv qai (⟨#[102]⟩, ([(0 : Int)] : List (Den I)), (3 : Int), ([(3 : Int)] : List (Den I)), ([(([] : List (Den I)), ([] : List (Den qah)), ((4 : Int), ([(0 : Int)] : List (Den I)), ([] : List (Den I)), ([] : List (Den qaf)), (0 : Int), ()), ())] : List (Den qad)), ())), (.tv qca ((4 : Int), ([(0 : Int)] : List (Den I)), ([] : List (Den I)), ([] : List (Den qaf)), (0 : Int), ()))]) (fun r_ h_ => r_ = (vb true) ∧ h_ = []) := .tree E_X5b_ok verify_shape_t (by
 repeat (first | refine qdb ?_ | refine qev (by first | decide) ?_)
 exact ⟨rfl, rfl⟩)
theorem c_verify_shape : qat E_X5b qfu k_verify_shape.spec := qfm rfl ⟨rfl, m_verify_shape⟩
def k_verify_operand : LitC := { ps := [.d qaq, .d qai, .d qca, .d I, .d I], L := ((([] : List (Den qar)), ([(⟨#[102]⟩, ([(0 : Int)] : List (Den I)), (3 : Int), ([(3 : Int)] : List (Den I)), ([(([] : List (Den I)), ([] : List (Den qah)), ((4 : Int), ([(0 : Int)] : List (Den I)), ([] : List (Den I)), ([] : List (Den qaf)), (0 : Int), ()), ())] : List (Den qad)), ())] : List (Den qai)), ()), (⟨#[102]⟩, ([(0 : Int)] : List (Den I)), (3 : Int), ([(3 : Int)] : List (Den I)), ([(([] : List (Den I)), ([] : List (Den qah)), ((4 : Int), ([(0 : Int)] : List (Den I)), ([] : List (Den I)), ([] : List (Den qaf)), (0 : Int), ()), ())] : List (Den qad)), ()), ((4 : Int), ([(0 : Int)] : List (Den I)), ([] : List (Den I)), ([] : List (Den qaf)), (0 : Int), ()), (0 : Int), (3 : Int), ()), res := (vb true), roots := [] }
theorem m_verify_operand : Runs E_X5b (start E_X5b qej [(.tv qaq (([] : List (Den qar)), ([(⟨#[102]⟩, ([(0 : Int)] : List (Den I)), (3 : Int), ([(3 : Int)] : List (Den I)), ([(([] : List (Den I)), ([] : List (Den qah)), ((4 : Int), ([(0 : Int)] : List (Den I)), ([] : List (Den I)), ([] : List (Den qaf)), (0 : Int), ()), ())] : List (Den qad)), ())] : List (Den qai)), ())), (.tv qai (⟨#[102]⟩, ([(0 : Int)] : List (Den I)), (3 : Int), ([(3 : Int)] : List (Den I)), ([(([] : List (Den I)), ([] : List (Den qah)), ((4 : Int), ([(0 : Int)] : List (Den I)), ([] : List (Den I)), ([] : List (Den qaf)), (0 : Int), ()), ())] : List (Den qad)), ())), (.tv qca ((4 : Int), ([(0 : Int)] : List (Den I)), ([] : List (Den I)), ([] : List (Den qaf)), (0 : Int), ())), (vi (0 : Int)), (vi (3 : Int))]) (fun r_ h_ => r_ = (vb true) ∧ h_ = []) := .tree E_X5b_ok verify_operand_t (by
 repeat (first | refine qdb ?_ | refine qev (by first | decide) ?_)
 exact ⟨rfl, rfl⟩)
theorem c_verify_operand : qat E_X5b qej k_verify_operand.spec := qfm rfl ⟨rfl, m_verify_operand⟩
def L_X5b : List (FuncId × FSpec) := [(qfu, k_verify_shape.spec), (qej, k_verify_operand.spec)] ++ L_X5
theorem L_X5b_ok : ∀ x ∈ L_X5b, qat (ctx []) x.1 x.2 := by
 unfold L_X5b
 simp only [List.cons_append, List.nil_append, List.forall_mem_cons]
 exact ⟨c_verify_shape, c_verify_operand, L_X5_ok⟩
def LI_X5b : List IoT := [] ++ LI_X5
theorem LI_X5b_ok : ∀ x ∈ LI_X5b, qbg (ctx []) x.1 x.2.1 x.2.2 := by
 unfold LI_X5b
 simp only [List.cons_append, List.nil_append, List.forall_mem_cons]
 exact LI_X5_ok
end Burn.M24
namespace Burn.M24
open Go Go.BE Go.Proofs
set_option maxRecDepth 100000
set_option linter.unusedVariables false
set_option linter.unusedSimpArgs false
noncomputable abbrev E_X6 : Ctx := ctx L_X5b LI_X5b
theorem E_X6_ok : EOK E_X6 := qcz L_X5b_ok LI_X5b_ok
def cuts_X6 : CutL := []
def rets_X6 : FuncId → List (Option Fx)
 | _ => []
def H_X6 : Hints := { cut := cutOf cuts_X6, ret := rets_X6 }
def H_X6_u_verify_Module_cl1 : Hints := { H_X6 with unr := fun _ _ => true }
theorem verify_Module_cl1_t : run E_X6 H_X6_u_verify_Module_cl1 qbc 1000000 (start E_X6 qbc [(.rtp qaq (([] : List (Den qar)), ([(⟨#[102]⟩, ([(0 : Int)] : List (Den I)), (3 : Int), ([(3 : Int)] : List (Den I)), ([(([] : List (Den I)), ([] : List (Den qah)), ((4 : Int), ([(0 : Int)] : List (Den I)), ([] : List (Den I)), ([] : List (Den qaf)), (0 : Int), ()), ())] : List (Den qad)), ())] : List (Den qai)), ()))]) = (.chk (0 ≤ (0 : Int) ∧ (0 : Int) < (1 : Nat)) (.chk ((0 : Nat) < (1 : Nat)) (.chk ((0 : Nat) < (1 : Nat)) (.chk (True) (.know True (.chk ((0 : Nat) < (1 : Nat)) (.chk (True) (.know True (.chk ((1 : Nat) * 16 ≤ roomB) (.chk ((0 : Nat) < (1 : Nat)) (.chk (True) (.know True (.chk ((0 : Nat) < (1 : Nat)) (.chk (0 ≤ (0 : Int) ∧ (0 : Int) < (1 : Nat)) (.chk ((0 : Nat) < (1 : Nat)) (.chk (True) (.know True (.chk ((0 : Nat) < (1 : Nat)) (.chk (0 ≤ (0 : Int) ∧ (0 : Int) < (1 : Nat)) (.chk (True) (.know True (.chk (0 ≤ (0 : Int) ∧ (0 : Int) ≤ (0 : Int) ∧ (0 : Int) ≤ (1 : Int)) (.chk (True) (.know True (.chk (0 ≤ (0 : Int) ∧ (0 : Int) < (1 : Nat)) (.chk ((0 : Nat) < (1 : Nat)) (.chk ((0 : Nat) < (1 : Nat)) (.chk (0 ≤ (0 : Int) ∧ (0 : Int) < (1 : Nat)) (.chk ((0 : Nat) < (1 : Nat)) (.chk (0 ≤ (0 : Int) ∧ (0 : Int) < (1 : Nat)) (.chk ((0 : Nat) < (1 : Nat)) (.chk ((0 : Nat) < (1 : Nat)) (.chk ((0 : Nat) < (1 : Nat)) (.chk ((0 : Nat) < (1 : Nat)) (.chk ((0 : Nat) < (1 : Nat)) (.chk (True) (.know True (.chk (0 ≤ (0 : Int) ∧ (0 : Int) < (1 : Nat)) (.chk (True) (.know True (.chk (0 ≤ (0 : Int) ∧ (0 : Int) < (1 : Nat)) (.chk (True) (.know True (rt (.tup []) [])))))))))))))))))))))))))))))))))))))))))))) := by kernel_rfl
def k_verify_Module_cl1 : LitC := { ps := [.cap qaq], L := ((([] : List (Den qar)), ([(⟨#[102]⟩, ([(0 : Int)] : List (Den I)), (3 : Int), ([(3 : Int)] : List (Den I)), ([(([] : List (Den I)), ([] : List (Den qah)), ((4 : Int), ([(0 : Int)] : List (Den I)), ([] : List (Den I)), ([] : List (Den qaf)), (0 : Int), ()), ())] : List (Den qad)), ())] : List (Den qai)), ()), ()), res := (.tup []), roots := [], pan := some (false, .bad) }
theorem m_verify_Module_cl1 : RunsP E_X6 (start E_X6 qbc [(.rtp qaq (([] : List (Den qar)), ([(⟨#[102]⟩, ([(0 : Int)] : List (Den I)), (3 : Int), ([(3 : Int)] : List (Den I)), ([(([] : List (Den I)), ([] : List (Den qah)), ((4 : Int), ([(0 : Int)] : List (Den I)), ([] : List (Den I)), ([] : List (Den qaf)), (0 : Int), ()), ())] : List (Den qad)), ())] : List (Den qai)), ()))]) (fun r_ h_ => r_ = .tup [] ∧ h_ = []) (fun _ => False) := .tree E_X6_ok verify_Module_cl1_t (by
 repeat (first | refine qdb ?_ | refine qev (by first | decide) ?_)
 exact ⟨rfl, rfl⟩)
theorem c_verify_Module_cl1 : qat E_X6 qbc k_verify_Module_cl1.spec := lit_ofP rfl rfl rfl ⟨rfl, m_verify_Module_cl1⟩
def L_X6 : List (FuncId × FSpec) := [(qbc, k_verify_Module_cl1.spec)] ++ L_X5b
theorem L_X6_ok : ∀ x ∈ L_X6, qat (ctx []) x.1 x.2 := by
 unfold L_X6
 simp only [List.cons_append, List.nil_append, List.forall_mem_cons]
 exact ⟨c_verify_Module_cl1, L_X5b_ok⟩
def LI_X6 : List IoT := [] ++ LI_X5b
theorem LI_X6_ok : ∀ x ∈ LI_X6, qbg (ctx []) x.1 x.2.1 x.2.2 := by
 unfold LI_X6
 simp only [List.cons_append, List.nil_append, List.forall_mem_cons]
 exact LI_X5b_ok
end Burn.M24
namespace Burn.M24
open Go Go.BE Go.Proofs
set_option maxRecDepth 100000
set_option linter.unusedVariables false
set_option linter.unusedSimpArgs false
noncomputable abbrev E_X7 : Ctx := ctx L_X6 LI_X6
theorem E_X7_ok : EOK E_X7 := qcz L_X6_ok LI_X6_ok
theorem first_idle {l : List (FuncId × FSpec)} (p : Value) (w : World) : CallsD Tryz.prog 203 #[p] .returning w fun e u' w' => e = .returned (.tuple #[]) ∧ u' = .returning ∧ w' = w := by
 refine callsD_of_wpS Tryz.func203 rfl fun c₀ cs hu => ?_
 apply (show ∀ {c : Code} {Q : Exit → Act → List Frame → World → Prop} {cs : List Frame} {w : World}, CS (ctx l) c Q (mkA [p, undef, undef, undef, undef, undef, undef, undef, undef, undef, undef, undef, undef, undef, undef, undef, undef] []) cs w → Code.wpS Tryz.prog c Q _ cs w from fun h => h.out)
 refine .seq (.reg [0, 1] rfl ?_)
 refine .rcv0 [p, undef, undef, undef, .nilIface, undef, undef, undef, undef, undef, undef, undef, undef, undef, undef, undef, undef] rfl rfl rfl (by kernel_rfl) (by simp [recoverD, hu]) rfl ?_
 refine .at_ .nilIface [p, .nilIface, undef, undef, .nilIface, undef, undef, undef, undef, undef, undef, undef, undef, undef, undef, undef, undef] rfl rfl rfl (by kernel_rfl) rfl ?_
 refine .next (.seq (.reg [0, 1] rfl ?_))
 refine .at_ .nilIface [p, .nilIface, undef, undef, .nilIface, .nilIface, undef, undef, undef, undef, undef, undef, undef, undef, undef, undef, undef] rfl rfl rfl (by kernel_rfl) rfl ?_
 refine .at_ (.bool false) [p, .nilIface, undef, undef, .nilIface, .nilIface, .bool false, undef, undef, undef, undef, undef, undef, undef, undef, undef, undef] rfl rfl rfl (by kernel_rfl) rfl ?_
 refine .next (.condF (by kernel_rfl) (.skip ?_))
 refine ⟨rfl, .returning, ?_, .tuple #[], by kernel_rfl, rfl, rfl, rfl⟩
 cases c₀
 simp_all
abbrev Dg := Den qay
theorem first_leaves {l : List (FuncId × FSpec)} {w0 w : World} {Z0 Z : Nat → Prop} {own : Own} {γ : Gst} {h : Heap} {nx : Nat} {fr : List AV} {a : Act} {d : Dg} (hE : EOK (ctx l)) (hm : MemR w0 ⟨fun _ => True, Z0⟩ w Z own γ h (fun s => s < nx)) (hs : Stay w0 Z0 w Z) (hf : VRs w Z γ fr a.tmps.toList)
  (hl : lget fr 2 = .ref 0 0) (hh : hget h 0 = some (qcy 0 (.cells [vi d.1, vi d.2.1, vi d.2.2.1, vi d.2.2.2.1, vi d.2.2.2.2.1]))) :
  Leaves (ctx l).P Tryz.f141 a.tmps (fun e w' => ∃ v Z' own' γ', e = .returned v ∧ Stay w0 Z0 w' Z' ∧ MemR w0 ⟨fun _ => True, Z0⟩ w' Z' own' γ' [] (fun s => s < 16) ∧ VR w' Z' γ' (avOf qay d) v) [] .returning w := by
 have he : aresults (ctx l) h fr Tryz.f141.results.toList = some ([], [.agg [vi d.1, vi d.2.1, vi d.2.2.1, vi d.2.2.2.1, vi d.2.2.2.2.1]]) := load_root (ty := 60) hl hh (by kernel_rfl)
 obtain ⟨V, h1, h2⟩ := results_sound hE.ty hm hf he trivial
 refine ⟨V, h1, V, Z, fun _ => none, ⟨fun _ => none, fun _ _ => none⟩, rfl, hs, hm.drop, ?_⟩
 have hcr := h2.toCR rfl
 exact .cr (argD_sound (S := qay) (y := d) rfl hcr)
def rpM : Den qaq := (([] : List (Den qar)), ([(⟨#[102]⟩, ([(0 : Int)] : List (Den I)), (3 : Int), ([(3 : Int)] : List (Den I)), ([(([] : List (Den I)), ([] : List (Den qah)), ((4 : Int), ([(0 : Int)] : List (Den I)), ([] : List (Den I)), ([] : List (Den qaf)), (0 : Int), ()), ())] : List (Den qad)), ())] : List (Den qai)), ())
def zeroD (_ : Den qaq) : Den qay := ((0 : Int), (0 : Int), (0 : Int), (0 : Int), (0 : Int), ())

def k_verify_first : Con := con [.fn qbc [qaq]] qay (fun x => x.1.1 = rpM) fun x => zeroD x.1.1
theorem c_verify_first : qat E_X7 f_verify_first k_verify_first.spec := spec_hand fun x _ hp w Z vs hg hz hc => by
 obtain ⟨⟨m, u1⟩, u2⟩ : (Den qaq × Unit) × Unit := x
 have hp : m = rpM := hp
 subst hp
 have hc : CRs w Z [.fn qbc [.rtp qaq rpM]] vs := hc
 obtain ⟨V, rfl⟩ : ∃ V, vs = [V] := by
  have := hc.1
  match vs, this with
  | [V], _ => exact ⟨V, rfl⟩
 have hE : EOK E_X7 := E_X7_ok
 refine calls_of_wp_defers Tryz.func141 rfl ?_
 refine (show ∀ {c : Code} {Q : Exit → Act → World → Prop} {w : World}, CN E_X7 c Q (mkA [V, undef, undef, undef, undef, undef, undef] []) w → Code.wp Tryz.prog c Q _ w from fun h => h.out) ?_
 have hf0 : VRs w Z ⟨fun _ => none, fun _ _ => none⟩ [.fn qbc [.rtp qaq rpM], und, und, und, und, und, und] [V, undef, undef, undef, undef, undef, undef] := by
  refine .cons (.cr (hc.2 0 _ _ rfl rfl)) ?_
  repeat (first | exact .nil | refine .cons (.cr (.val _ trivial)) ?_)
 refine .seq (.reg [0] rfl ?_)
 refine .sr hE [0] [] (by kernel_rfl) (MemR.none hz) hg (by simpa [mkA] using hf0) fun a1 w1 Z1 own1 γ1 q1 q2 q3 q4 q5 q6 => ?_
 refine .next (.seq (.reg [0, 1] rfl ?_))
 refine .sr hE [0] [1] (by kernel_rfl) q4 q5 q6 fun a2 w2 Z2 own2 γ2 r1 r2 r3 r4 r5 r6 => ?_
 obtain ⟨us, e3, hus⟩ := ((ev_rel' r5 r6 (.tmp 3)).cast (B := .fn qcl [.ref 0 0]) (by kernel_rfl)).fn_inv
 rw [fnV_lt (by kernel_rfl)] at e3
 obtain ⟨p, rfl⟩ : ∃ p, us = #[p] := by
  have := hus.1
  obtain ⟨l⟩ := us
  match l, this with
  | [p], _ => exact ⟨p, rfl⟩
 have hpr : VR w2 Z2 γ2 (.ref 0 0) p := hus.head
 refine .defer ⟨.fn (.func qcl) #[p], #[]⟩ rfl rfl rfl (by simp [execOp, resolve, e3, Deferred.ofValue]) ?_
 refine .next (.seq (.reg [0, 1] rfl ?_))
 refine .sr (a := { a2 with defers := ⟨.fn (.func qcl) #[p], #[]⟩ :: a2.defers }) hE [0] [1] (by kernel_rfl) r4 r5 r6 fun a3 w3 Z3 own3 γ3 s1 s2 s3 s4 s5 s6 => ?_
 have hdef : a3.defers = [⟨.fn (.func qcl) #[p], #[]⟩] := by
  rw [s1]
  show _ :: a2.defers = _
  rw [r1, q1]
  rfl
 obtain ⟨cs, e4, hcs⟩ := ((ev_rel' s5 s6 (.tmp 4)).cast (B := .fn qbc [.rtp qaq rpM]) (by kernel_rfl)).fn_inv
 rw [fnV_lt (by kernel_rfl)] at e4
 have hcall := acallP_sound (K := ⟨fun _ => True, Z⟩) (used' := fun s => s < 64) hE.env s4 s5 (f := qbc) (args := [.rtp qaq rpM]) (C := [True]) (bb := false) (pv := .bad) (a := .tup []) (by kernel_rfl) ⟨trivial, trivial⟩ hcs (fun s h => Nat.lt_of_lt_of_le h (Nat.le_of_ble_eq_true (by kernel_rfl)))
 have hst3 : Stay w Z w3 Z3 := q2.trans (r2.trans s2)
 refine .call (f := qbc) (args := cs) rfl rfl ?_ (by rw [Array.toArray_toList] at hcall; exact hcall) (fun v w4 hR => ?_) (fun ch w4 hR => ?_) (fun w4 hR => ?_)
 ·have hfn := hE.fns qbc (by kernel_rfl) cs w3
  simp [execOp, resolve, e4, Deferred.ofValue, invoke]
  exact hfn
 ·obtain ⟨Z4, k1, k2, k3⟩ := hR
  rcases k3 with ⟨_, V4, he, _⟩ | ⟨hb, V4, he, hv⟩
  ·cases he
  ·injection he with he
   subst he
   refine .next (.seq (.reg [0, 1] rfl ?_))
   refine .sr hE [0, 1] [] (by kernel_rfl) k2 (s5.mono k1) ((s6.mono k1 (Gst.Le.refl _)).putT (some 5) hv) fun a5 w5 Z5 own5 γ5 t1 t2 t3 t4 t5 t6 => ?_
   refine .next (.ret ?_)
   have hd5 : a5.defers = [⟨.fn (.func qcl) #[p], #[]⟩] := by rw [t1, put_defers]; exact hdef
   show Leaves E_X7.P Tryz.f141 a5.tmps _ a5.defers .returning w5
   rw [hd5]
   refine leaves_cons (by simp) (f := qcl) (args := #[p]) ?_ ?_
   ·have hfn := hE.fns qcl (by kernel_rfl) #[p] w5
    simpa [invoke] using hfn
   ·refine (first_idle (l := L_X6) p w5).mono fun e u' w' ⟨he, hu, hw⟩ => ?_
    subst he; subst hu; subst hw
    show Leaves _ _ _ (fun e w' => ∃ v Z' own' γ', e = .returned v ∧ Stay w Z w' Z' ∧ MemR w ⟨fun _ => True, Z⟩ w' Z' own' γ' [] (fun s => s < 16) ∧ VR w' Z' γ' (avOf qay (zeroD rpM)) v) [] .returning _
    exact first_leaves hE t4 (hst3.trans (k1.trans t2)) t6 (by kernel_rfl) (by kernel_rfl)
 ·obtain ⟨Z4, k1, k2, k3⟩ := hR
  rcases k3 with ⟨hb, _⟩ | ⟨hb, V4, he, hv⟩
  ·cases hb
  ·cases he
 ·obtain ⟨Z4, k1, k2, k3⟩ := hR
  rcases k3 with ⟨hb, V4, he, _⟩ | ⟨hb, V4, he, _⟩ <;> cases he
def L_X7 : List (FuncId × FSpec) := [(f_verify_first, k_verify_first.spec)] ++ L_X6
theorem L_X7_ok : ∀ x ∈ L_X7, qat (ctx []) x.1 x.2 := by
 unfold L_X7
 simp only [List.cons_append, List.nil_append, List.forall_mem_cons]
 exact ⟨c_verify_first, L_X6_ok⟩
def LI_X7 : List IoT := [] ++ LI_X6
theorem LI_X7_ok : ∀ x ∈ LI_X7, qbg (ctx []) x.1 x.2.1 x.2.2 := by
 unfold LI_X7
 simp only [List.cons_append, List.nil_append, List.forall_mem_cons]
 exact LI_X6_ok
end Burn.M24
namespace Burn.M24
open Go Go.BE Go.Proofs
set_option maxRecDepth 100000
set_option linter.unusedVariables false
set_option linter.unusedSimpArgs false
noncomputable abbrev E_X8 : Ctx := ctx L_X7 LI_X7
theorem E_X8_ok : EOK E_X8 := qcz L_X7_ok LI_X7_ok
def cuts_X8 : CutL := []
def rets_X8 : FuncId → List (Option Fx)
 | 88 => [some (.dat qay)]
 | _ => []
def H_X8 : Hints := { cut := cutOf cuts_X8, ret := rets_X8 }
def H_X8_u_verify_Module : Hints := { H_X8 with unr := fun _ _ => true }
theorem verify_Module_t : run E_X8 H_X8_u_verify_Module qff 1000000 (start E_X8 qff [(.tv qaq (([] : List (Den qar)), ([(⟨#[102]⟩, ([(0 : Int)] : List (Den I)), (3 : Int), ([(3 : Int)] : List (Den I)), ([(([] : List (Den I)), ([] : List (Den qah)), ((4 : Int), ([(0 : Int)] : List (Den I)), ([] : List (Den I)), ([] : List (Den qaf)), (0 : Int), ()), ())] : List (Den qad)), ())] : List (Den qai)), ()))]) = (.chk ((([] : List (Den qar)), ([(⟨#[102]⟩, ([(0 : Int)] : List (Den I)), (3 : Int), ([(3 : Int)] : List (Den I)), ([(([] : List (Den I)), ([] : List (Den qah)), ((4 : Int), ([(0 : Int)] : List (Den I)), ([] : List (Den I)), ([] : List (Den qaf)), (0 : Int), ()), ())] : List (Den qad)), ())] : List (Den qai)), ()) = rpM) (.know (okD qay (zeroD (([] : List (Den qar)), ([(⟨#[102]⟩, ([(0 : Int)] : List (Den I)), (3 : Int), ([(3 : Int)] : List (Den I)), ([(([] : List (Den I)), ([] : List (Den qah)), ((4 : Int), ([(0 : Int)] : List (Den I)), ([] : List (Den I)), ([] : List (Den qaf)), (0 : Int), ()), ())] : List (Den qad)), ())] : List (Den qai)), ()))) (.chk ((0 : Nat) < (1 : Nat)) (.chk ((0 : Nat) < (1 : Nat)) (rt (.tv qay (zeroD (([] : List (Den qar)), ([(⟨#[102]⟩, ([(0 : Int)] : List (Den I)), (3 : Int), ([(3 : Int)] : List (Den I)), ([(([] : List (Den I)), ([] : List (Den qah)), ((4 : Int), ([(0 : Int)] : List (Den I)), ([] : List (Den I)), ([] : List (Den qaf)), (0 : Int), ()), ())] : List (Den qad)), ())] : List (Den qai)), ()))) []))))) := by kernel_rfl
def k_verify_Module : LitC := { ps := [.d qaq], L := ((([] : List (Den qar)), ([(⟨#[102]⟩, ([(0 : Int)] : List (Den I)), (3 : Int), ([(3 : Int)] : List (Den I)), ([(([] : List (Den I)), ([] : List (Den qah)), ((4 : Int), ([(0 : Int)] : List (Den I)), ([] : List (Den I)), ([] : List (Den qaf)), (0 : Int), ()), ())] : List (Den qad)), ())] : List (Den qai)), ()), ()), res := (.tv qay ((0 : Int), (0 : Int), (0 : Int), (0 : Int), (0 : Int), ())), roots := [] }
theorem m_verify_Module : Runs E_X8 (start E_X8 qff [(.tv qaq (([] : List (Den qar)), ([(⟨#[102]⟩, ([(0 : Int)] : List (Den I)), (3 : Int), ([(3 : Int)] : List (Den I)), ([(([] : List (Den I)), ([] : List (Den qah)), ((4 : Int), ([(0 : Int)] : List (Den I)), ([] : List (Den I)), ([] : List (Den qaf)), (0 : Int), ()), ())] : List (Den qad)), ())] : List (Den qai)), ()))]) (fun r_ h_ => r_ = (.tv qay ((0 : Int), (0 : Int), (0 : Int), (0 : Int), (0 : Int), ())) ∧ h_ = []) := .tree E_X8_ok verify_Module_t (by
 repeat (first | refine qdb ?_ | refine qev (by first | decide | rfl) ?_)
 exact ⟨rfl, rfl⟩)
theorem c_verify_Module : qat E_X8 qff k_verify_Module.spec := qfm rfl ⟨rfl, m_verify_Module⟩
def L_X8 : List (FuncId × FSpec) := [(qff, k_verify_Module.spec)] ++ L_X7
theorem L_X8_ok : ∀ x ∈ L_X8, qat (ctx []) x.1 x.2 := by
 unfold L_X8
 simp only [List.cons_append, List.nil_append, List.forall_mem_cons]
 exact ⟨c_verify_Module, L_X7_ok⟩
def LI_X8 : List IoT := [] ++ LI_X7
theorem LI_X8_ok : ∀ x ∈ LI_X8, qbg (ctx []) x.1 x.2.1 x.2.2 := by
 unfold LI_X8
 simp only [List.cons_append, List.nil_append, List.forall_mem_cons]
 exact LI_X7_ok
end Burn.M24
namespace Burn.M24
open Go Go.BE Go.Proofs
set_option maxRecDepth 100000
set_option linter.unusedVariables false
set_option linter.unusedSimpArgs false
open Burn.Bit
noncomputable abbrev E_B1 : Ctx := ctx L_X8 LI_X8
theorem E_B1_ok : EOK E_B1 := qcz L_X8_ok LI_X8_ok
def cuts_B1 : CutL := []
def rets_B1 : FuncId → List (Option Fx)
 | _ => []
def H_B1 : Hints := { cut := cutOf cuts_B1, ret := rets_B1 }
theorem bitset_Set_valid_t (s : Den (.ptr qaa)) : run E_B1 H_B1 qdr 3000 (start E_B1 qdr [(.tv (.ptr qaa) s)]) = (cond (!(oN qaa s)) (.chk ((oN qaa s) = false) (rt (vb (bOf ((oG qaa s).1))) [])) (rt (vb false) [])) := by kernel_rfl
theorem bitset_Set_Union_cl1_t (a : Int) (b : Int) : run E_B1 H_B1 qbn 3000 (start E_B1 qbn [(aint .u64 a), (aint .u64 b)]) = (rt (aint .u64 (IntKind.wrap .u64 (bvor .u64 a b))) []) := by kernel_rfl
theorem bitset_New_t (n : Int) : run E_B1 H_B1 f_bitset_New 3000 (start E_B1 f_bitset_New [(vi n)]) = (cond (decide (n < (0 : Int))) (rt (.val (.pointer none)) []) (cond (decide (n > (65536 : Int))) (rt (.val (.pointer none)) []) (.chk ((64 : Int) ≠ 0) (.chk ((IntKind.wrap .i64 (Int.tdiv (IntKind.wrap .i64 (n + (63 : Int))) (64 : Int))) = (IntKind.wrap .i64 (Int.tdiv (IntKind.wrap .i64 (n + (63 : Int))) (64 : Int)))) (.chk (0 ≤ (IntKind.wrap .i64 (Int.tdiv (IntKind.wrap .i64 (n + (63 : Int))) (64 : Int)))) (.chk (((IntKind.wrap .i64 (Int.tdiv (IntKind.wrap .i64 (n + (63 : Int))) (64 : Int)))).toNat * 8 ≤ roomB) (rt (.tref 0 0 [] (0 : Nat) []) [(0, ⟨(.arr 1 40 qaa ([(true, n, (List.replicate (((IntKind.wrap .i64 (Int.tdiv (IntKind.wrap .i64 (n + (63 : Int))) (64 : Int)))).toNat) (dz (.int .u64))), ())] : List (Den qaa))), 0, [], false, none⟩)]))))))) := by kernel_rfl
def qer (s : Den (.ptr qaa)) : Bool := (cond (!(oN qaa s)) (bOf ((oG qaa s).1)) false)

def k_bitset_Set_valid : Con := con [.d (.ptr qaa)] .bool (fun x => True) fun x => qer x.1
theorem m_bitset_Set_valid (s : Den (.ptr qaa)) (h_s : okD (.ptr qaa) s) (hp : True) : Runs E_B1 (start E_B1 qdr [(.tv (.ptr qaa) s)]) (fun r_ h_ => r_ = (vb (qer s)) ∧ h_ = []) := .tree E_B1_ok (bitset_Set_valid_t s) (by
 show Tre.wp (Qv _ (fun x_ => (vb x_)) (qer s)) _
 unfold qer
 refine wp_both (fun h1 => ?_) (fun h1 => ⟨rfl, rfl⟩)
 refine ⟨by first | omega | assumption | exact hp.1 | exact hp.2 | exact hp.2.1 | (simp_all; done) | (simp_all; omega), fun _ => ?_⟩
 exact ⟨rfl, rfl⟩)
theorem c_bitset_Set_valid : qat E_B1 qdr k_bitset_Set_valid.spec := qcj fun x hx hp => ⟨rfl, m_bitset_Set_valid x.1 hx.1 hp⟩
def orW (a : Int) (b : Int) : Int := (IntKind.wrap .u64 (bvor .u64 a b))

def k_bitset_Set_Union_cl1 : Con := con [.d (.int .u64), .d (.int .u64)] (.int .u64) (fun x => True) fun x => orW x.1 x.2.1
theorem m_bitset_Set_Union_cl1 (a : Int) (b : Int) (h_a : okD (.int .u64) a) (h_b : okD (.int .u64) b) (hp : True) : Runs E_B1 (start E_B1 qbn [(aint .u64 a), (aint .u64 b)]) (fun r_ h_ => r_ = (aint .u64 (orW a b)) ∧ h_ = []) := .tree E_B1_ok (bitset_Set_Union_cl1_t a b) (by
 show Tre.wp (Qv _ (fun x_ => (aint .u64 x_)) (orW a b)) _
 unfold orW
 exact ⟨rfl, rfl⟩)
theorem c_bitset_Set_Union_cl1 : qat E_B1 qbn k_bitset_Set_Union_cl1.spec := qcj fun x hx hp => ⟨rfl, m_bitset_Set_Union_cl1 x.1 x.2.1 hx.1 hx.2.1 hp⟩
def newS (n : Int) : Den qaa := (true, n, List.replicate ((n.toNat + 63) / 64) 0, ())

def k_bitset_New : Con := ⟨[.d I], fun x => 0 ≤ z x.1 ∧ z x.1 ≤ 65536, fun _ => .tref 0 0 [] 0 [], fun x => [(0, ⟨.arr 1 40 qaa [newS x.1], 0, [], false, none⟩)]⟩
theorem m_bitset_New (n : Int) (h_n : okD I n) (hp : 0 ≤ z n ∧ z n ≤ 65536) : Runs E_B1 (start E_B1 f_bitset_New [(vi n)]) (fun r_ h_ => r_ = (.tref 0 0 [] (0 : Nat) []) ∧ h_ = [(0, ⟨(.arr 1 40 qaa ([(newS n)] : List (Den qaa))), 0, [], false, none⟩)]) := .tree E_B1_ok (bitset_New_t n) (by
 simp only [z] at hp
 refine qap (fun h => ?_) (fun _ => ?_)
 ·have := of_decide_eq_true h
  omega
 refine qap (fun h => ?_) (fun _ => ?_)
 ·have := of_decide_eq_true h
  omega
 have h1 : IntKind.wrap .i64 (n + (63 : Int)) = n + 63 := wrap64 _ (by omega) (by omega)
 have h2 : Int.tdiv (n + 63) (64 : Int) = ((n.toNat + 63) / 64 : Nat) := by
  rw [Int.tdiv_eq_ediv_of_nonneg (by omega)]
  omega
 rw [h1, h2]
 have h3 : IntKind.wrap .i64 (((n.toNat + 63) / 64 : Nat) : Int) = ((n.toNat + 63) / 64 : Nat) := wrap64 _ (by omega) (by omega)
 rw [h3]
 refine ⟨by omega, fun _ => ⟨rfl, fun _ => ⟨by omega, fun _ => ⟨?_, fun _ => ⟨rfl, ?_⟩⟩⟩⟩⟩
 ·simp only [roomB]
  omega
 ·rw [Int.toNat_natCast]
  rfl)
theorem c_bitset_New : qat E_B1 f_bitset_New k_bitset_New.spec := qcj fun x hx hp => ⟨rfl, m_bitset_New x.1 hx.1 hp⟩
def L_B1 : List (FuncId × FSpec) := [(qdr, k_bitset_Set_valid.spec), (qbn, k_bitset_Set_Union_cl1.spec), (f_bitset_New, k_bitset_New.spec)] ++ L_X8
theorem L_B1_ok : ∀ x ∈ L_B1, qat (ctx []) x.1 x.2 := by
 unfold L_B1
 simp only [List.cons_append, List.nil_append, List.forall_mem_cons]
 exact ⟨c_bitset_Set_valid, c_bitset_Set_Union_cl1, c_bitset_New, L_X8_ok⟩
def LI_B1 : List IoT := [] ++ LI_X8
theorem LI_B1_ok : ∀ x ∈ LI_B1, qbg (ctx []) x.1 x.2.1 x.2.2 := by
 unfold LI_B1
 simp only [List.cons_append, List.nil_append, List.forall_mem_cons]
 exact LI_X8_ok
end Burn.M24
namespace Burn.M24
open Go Go.BE Go.Proofs
set_option maxRecDepth 100000
set_option linter.unusedVariables false
set_option linter.unusedSimpArgs false
open Burn.Bit
noncomputable abbrev E_B2 : Ctx := ctx L_B1 LI_B1
theorem E_B2_ok : EOK E_B2 := qcz L_B1_ok LI_B1_ok
def cuts_B2 : CutL := []
def rets_B2 : FuncId → List (Option Fx)
 | _ => []
def H_B2 : Hints := { cut := cutOf cuts_B2, ret := rets_B2 }
theorem bitset_Set_Has_t (s : Den (.ptr qaa)) (i : Int) : run E_B2 H_B2 qel 3000 (start E_B2 qel [(.tv (.ptr qaa) s), (vi i)]) = (.chk (True) (.know True (cond (qer s) (cond (decide (i ≥ (0 : Int))) (.chk ((oN qaa s) = false) (cond (decide (i < (z ((oG qaa s).2.1)))) (.chk ((oN qaa s) = false) (.chk ((64 : Int) ≠ 0) (.chk (0 ≤ (IntKind.wrap .i64 (Int.tdiv i (64 : Int))) ∧ (IntKind.wrap .i64 (Int.tdiv i (64 : Int))) < (ln (.int .u64) ((oG qaa s).2.2.1))) (.chk ((64 : Int) ≠ 0) (.chk (0 ≤ (Int.tmod i (64 : Int))) (rt (vb ((IntKind.wrap .u64 (bvand .u64 (Int.fdiv (iOf .u64 (gd (.int .u64) ((oG qaa s).2.2.1) (((IntKind.wrap .i64 (Int.tdiv i (64 : Int)))).toNat))) (2 ^ min ((Int.tmod i (64 : Int))).toNat (IntKind.bits .u64))) (1 : Int))) == (1 : Int))) [])))))) (rt (vb false) []))) (rt (vb false) [])) (rt (vb false) [])))) := by kernel_rfl
structure WF (s : Den qaa) : Prop where
 made : s.1 = true
 lo : 0 ≤ z s.2.1
 hi : z s.2.1 ≤ 65536
 ok : OkW (z s.2.1).toNat s.2.2.1
def wfP (s : Den (.ptr qaa)) : Prop := ∃ y, s = some y ∧ WF y
def memS (s : Den qaa) (i : Int) : Bool := decide (0 ≤ i) && (decide (i < z s.2.1) && memW s.2.2.1 i.toNat)
def hasS (s : Den (.ptr qaa)) (i : Int) : Bool := memS (oG qaa s) i
theorem idx64 {i : Int} (h0 : 0 ≤ i) (h1 : i ≤ 65536) : IntKind.wrap .i64 (Int.tdiv i (64 : Int)) = ((i.toNat / 64 : Nat) : Int) ∧ Int.tmod i (64 : Int) = ((i.toNat % 64 : Nat) : Int) := by
 have e : Int.tdiv i 64 = ((i.toNat / 64 : Nat) : Int) := by
  rw [Int.tdiv_eq_ediv_of_nonneg h0]
  omega
 refine ⟨by rw [e]; exact wrap64 _ (by omega) (by omega), ?_⟩
 rw [Int.tmod_eq_emod_of_nonneg h0]
 omega

def k_bitset_Set_Has : Con := con [.d (.ptr qaa), .d I] .bool (fun x => wfP x.1) fun x => hasS x.1 x.2.1
theorem m_bitset_Set_Has (s : Den (.ptr qaa)) (i : Int) (h_s : okD (.ptr qaa) s) (h_i : okD I i) (hp : wfP s) : Runs E_B2 (start E_B2 qel [(.tv (.ptr qaa) s), (vi i)]) (fun r_ h_ => r_ = (vb (hasS s i)) ∧ h_ = []) := .tree E_B2_ok (bitset_Set_Has_t s i) (by
 obtain ⟨y, rfl, hy⟩ := hp
 refine ⟨trivial, fun _ _ => ?_⟩
 refine qap (fun _ => ?_) (fun h => absurd (h.symm.trans (show qer (some y) = true from hy.made)) (by decide))
 have hlo := hy.lo
 have hhi := hy.hi
 refine qap (fun h => ?_) (fun h => ?_)
 ·have h0 := of_decide_eq_true h
  refine ⟨rfl, fun _ => qap (fun h1 => ?_) (fun h1 => ?_)⟩
  ·have h1 := of_decide_eq_true h1
   have h1 : i < z y.2.1 := h1
   obtain ⟨e1, e2⟩ := idx64 h0 (by omega)
   have hb := has_tb (hy.ok.get (i.toNat / 64)) (Nat.mod_lt i.toNat (show 0 < 64 by omega))
   rw [e1, e2, Int.toNat_natCast, Int.toNat_natCast]
   have hl := hy.ok.lt (r := i.toNat) (by omega)
   refine ⟨rfl, fun _ => ⟨by omega, fun _ => ⟨⟨by omega, ?_⟩, fun _ => ⟨by omega, fun _ => ⟨by omega, fun _ => ⟨?_, rfl⟩⟩⟩⟩⟩⟩
   ·exact Int.ofNat_lt.2 hl
   ·refine congrArg (fun b => vb b) (hb.trans ?_)
    unfold hasS memS
    rw [decide_eq_true h0, Bool.true_and, show oG qaa (some y) = y from rfl, decide_eq_true h1, Bool.true_and]
    rfl
  ·have h1 : ¬ i < z y.2.1 := of_decide_eq_false h1
   refine ⟨?_, rfl⟩
   unfold hasS memS
   rw [show oG qaa (some y) = y from rfl, decide_eq_false h1, Bool.false_and, Bool.and_false]
 ·have h0 : ¬ i ≥ 0 := of_decide_eq_false h
  refine ⟨?_, rfl⟩
  unfold hasS memS
  rw [decide_eq_false (by omega), Bool.false_and])
theorem c_bitset_Set_Has : qat E_B2 qel k_bitset_Set_Has.spec := qcj fun x hx hp => ⟨rfl, m_bitset_Set_Has x.1 x.2.1 hx.1 hx.2.1 hp⟩
def L_B2 : List (FuncId × FSpec) := [(qel, k_bitset_Set_Has.spec)] ++ L_B1
theorem L_B2_ok : ∀ x ∈ L_B2, qat (ctx []) x.1 x.2 := by
 unfold L_B2
 simp only [List.cons_append, List.nil_append, List.forall_mem_cons]
 exact ⟨c_bitset_Set_Has, L_B1_ok⟩
def LI_B2 : List IoT := [] ++ LI_B1
theorem LI_B2_ok : ∀ x ∈ LI_B2, qbg (ctx []) x.1 x.2.1 x.2.2 := by
 unfold LI_B2
 simp only [List.cons_append, List.nil_append, List.forall_mem_cons]
 exact LI_B1_ok
end Burn.M24
namespace Burn.M24
open Go Go.BE Go.Proofs
set_option maxRecDepth 100000
set_option linter.unusedVariables false
set_option linter.unusedSimpArgs false
open Burn.Bit
noncomputable abbrev E_B3 : Ctx := ctx L_B2 LI_B2
theorem E_B3_ok : EOK E_B3 := qcz L_B2_ok LI_B2_ok
def cuts_B3 : CutL := []
def rets_B3 : FuncId → List (Option Fx)
 | _ => []
def H_B3 : Hints := { cut := cutOf cuts_B3, ret := rets_B3 }
theorem bitset_Set_Add_t (s : Den qaa) (i : Int) (hd1 : Hd) : run E_B3 H_B3 qem 3000 (startH E_B3 qem [(.tref 1 1 [] (0 : Nat) []), (vi i)] [.g 1 1 hd1] [(1, ⟨(.arr 1 40 qaa ([s] : List (Den qaa))), 1, [], false, none⟩)]) = (.chk (True) (.know True (cond (!(qer (some s))) (rt (vb false) [(0, ⟨(.pins [.g 1 1 hd1]), 0, [], false, none⟩), (1, ⟨(.arr 1 40 qaa ([s] : List (Den qaa))), 1, [], false, none⟩)]) (cond (decide (i < (0 : Int))) (rt (vb false) [(0, ⟨(.pins [.g 1 1 hd1]), 0, [], false, none⟩), (1, ⟨(.arr 1 40 qaa ([s] : List (Den qaa))), 1, [], false, none⟩)]) (.chk ((0 : Nat) < (1 : Nat)) (cond (decide (i ≥ (z s.2.1))) (rt (vb false) [(0, ⟨(.pins [.g 1 1 hd1]), 0, [], false, none⟩), (1, ⟨(.arr 1 40 qaa ([s] : List (Den qaa))), 1, [], false, none⟩)]) (.chk (wfP (some s)) (.know True (cond (hasS (some s) i) (rt (vb false) [(0, ⟨(.pins [.g 1 1 hd1]), 0, [], false, none⟩), (1, ⟨(.arr 1 40 qaa ([s] : List (Den qaa))), 1, [], false, none⟩)]) (.chk ((0 : Nat) < (1 : Nat)) (.chk ((64 : Int) ≠ 0) (.chk ((0 : Nat) < (1 : Nat)) (.chk (0 ≤ (IntKind.wrap .i64 (Int.tdiv i (64 : Int))) ∧ (IntKind.wrap .i64 (Int.tdiv i (64 : Int))) < (ln (.int .u64) s.2.2.1)) (.chk ((0 : Nat) < (1 : Nat)) (.chk (((IntKind.wrap .i64 (Int.tdiv i (64 : Int)))).toNat < (ln (.int .u64) s.2.2.1)) (.chk ((64 : Int) ≠ 0) (.chk (0 ≤ (Int.tmod i (64 : Int))) (.chk ((0 : Nat) < (1 : Nat)) (.chk (0 ≤ (IntKind.wrap .i64 (Int.tdiv i (64 : Int))) ∧ (IntKind.wrap .i64 (Int.tdiv i (64 : Int))) < (ln (.int .u64) s.2.2.1)) (.chk ((0 : Nat) < (1 : Nat)) (.chk (((IntKind.wrap .i64 (Int.tdiv i (64 : Int)))).toNat < (ln (.int .u64) s.2.2.1)) (rt (vb true) [(0, ⟨(.pins [.g 1 1 hd1]), 0, [], false, none⟩), (1, ⟨(.arr 1 40 qaa ([(s.1, s.2.1, (st (.int .u64) s.2.2.1 (((IntKind.wrap .i64 (Int.tdiv i (64 : Int)))).toNat) (IntKind.wrap .u64 (bvor .u64 (iOf .u64 (gd (.int .u64) s.2.2.1 (((IntKind.wrap .i64 (Int.tdiv i (64 : Int)))).toNat))) (IntKind.wrap .u64 ((1 : Int) * 2 ^ min ((Int.tmod i (64 : Int))).toNat (IntKind.bits .u64)))))), s.2.2.2)] : List (Den qaa))), 1, [], false, none⟩)])))))))))))))))))))))) := by kernel_rfl
theorem bitset_Set_Remove_t (s : Den qaa) (i : Int) (hd1 : Hd) : run E_B3 H_B3 qdl 3000 (startH E_B3 qdl [(.tref 1 1 [] (0 : Nat) []), (vi i)] [.g 1 1 hd1] [(1, ⟨(.arr 1 40 qaa ([s] : List (Den qaa))), 1, [], false, none⟩)]) = (.chk (wfP (some s)) (.know True (cond (!(hasS (some s) i)) (rt (vb false) [(0, ⟨(.pins [.g 1 1 hd1]), 0, [], false, none⟩), (1, ⟨(.arr 1 40 qaa ([s] : List (Den qaa))), 1, [], false, none⟩)]) (.chk ((0 : Nat) < (1 : Nat)) (.chk ((64 : Int) ≠ 0) (.chk ((0 : Nat) < (1 : Nat)) (.chk (0 ≤ (IntKind.wrap .i64 (Int.tdiv i (64 : Int))) ∧ (IntKind.wrap .i64 (Int.tdiv i (64 : Int))) < (ln (.int .u64) s.2.2.1)) (.chk ((0 : Nat) < (1 : Nat)) (.chk (((IntKind.wrap .i64 (Int.tdiv i (64 : Int)))).toNat < (ln (.int .u64) s.2.2.1)) (.chk ((64 : Int) ≠ 0) (.chk (0 ≤ (Int.tmod i (64 : Int))) (.chk ((0 : Nat) < (1 : Nat)) (.chk (0 ≤ (IntKind.wrap .i64 (Int.tdiv i (64 : Int))) ∧ (IntKind.wrap .i64 (Int.tdiv i (64 : Int))) < (ln (.int .u64) s.2.2.1)) (.chk ((0 : Nat) < (1 : Nat)) (.chk (((IntKind.wrap .i64 (Int.tdiv i (64 : Int)))).toNat < (ln (.int .u64) s.2.2.1)) (rt (vb true) [(0, ⟨(.pins [.g 1 1 hd1]), 0, [], false, none⟩), (1, ⟨(.arr 1 40 qaa ([(s.1, s.2.1, (st (.int .u64) s.2.2.1 (((IntKind.wrap .i64 (Int.tdiv i (64 : Int)))).toNat) (IntKind.wrap .u64 (bvandn .u64 (iOf .u64 (gd (.int .u64) s.2.2.1 (((IntKind.wrap .i64 (Int.tdiv i (64 : Int)))).toNat))) (IntKind.wrap .u64 ((1 : Int) * 2 ^ min ((Int.tmod i (64 : Int))).toNat (IntKind.bits .u64)))))), s.2.2.2)] : List (Den qaa))), 1, [], false, none⟩)])))))))))))))))) := by kernel_rfl
def addS (s : Den qaa) (i : Int) : Den qaa := cond (memS s i || !(decide (0 ≤ i) && decide (i < z s.2.1))) s (s.1, s.2.1, addW s.2.2.1 i.toNat, ())
def addR (s : Den qaa) (i : Int) : Bool := !(memS s i || !(decide (0 ≤ i) && decide (i < z s.2.1)))
def remS (s : Den qaa) (i : Int) : Den qaa := cond (memS s i) (s.1, s.2.1, remW s.2.2.1 i.toNat, ()) s
theorem add_out {s : Den qaa} {i : Int} (h : (decide (0 ≤ i) && decide (i < z s.2.1)) = false) : addR s i = false ∧ addS s i = s := by
 unfold addR addS
 rw [h]
 simp
theorem add_mem {s : Den qaa} {i : Int} (h : memS s i = true) : addR s i = false ∧ addS s i = s := by
 unfold addR addS
 rw [h]
 simp
theorem add_new {s : Den qaa} {i : Int} (h : memS s i = false) (h0 : 0 ≤ i) (h1 : i < z s.2.1) : addR s i = true ∧ addS s i = (s.1, s.2.1, addW s.2.2.1 i.toNat, ()) := by
 unfold addR addS
 rw [h, decide_eq_true h0, decide_eq_true h1]
 exact ⟨rfl, rfl⟩

def k_bitset_Set_Add : ConIO := ⟨[.ref 1 40 qaa, .c (.d I)], fun x => WF x.1, fun x => (vb (addR x.1 x.2.1)), fun x => [(1, ⟨.arr 1 40 qaa [addS x.1 x.2.1], 1, [], false, none⟩)]⟩
theorem m_bitset_Set_Add (s : Den qaa) (i : Int) (hd1 : Hd) (h_s : okD qaa s) (h_i : okD I i) (hp : WF s) : Runs E_B3 (startH E_B3 qem [(.tref 1 1 [] (0 : Nat) []), (vi i)] [.g 1 1 hd1] [(1, ⟨(.arr 1 40 qaa ([s] : List (Den qaa))), 1, [], false, none⟩)]) (fun r_ h_ => r_ = (vb (addR s i)) ∧ h_ = (0, ⟨(.pins [.g 1 1 hd1]), 0, [], false, none⟩) :: [(1, ⟨.arr 1 40 qaa [addS s i], 1, [], false, none⟩)]) := .tree E_B3_ok (bitset_Set_Add_t s i hd1) (by
 have hv : (!(qer (some s))) = false := by rw [show qer (some s) = true from hp.made]; rfl
 have hlo := hp.lo
 have hhi := hp.hi
 refine ⟨trivial, fun _ _ => qap (fun h => absurd (h.symm.trans hv) (by decide)) fun _ => ?_⟩
 refine qap (fun h => ?_) (fun h => ?_)
 ·have h := of_decide_eq_true h
  obtain ⟨e1, e2⟩ := add_out (s := s) (i := i) (by rw [decide_eq_false (by omega), Bool.false_and])
  rw [e1, e2]
  exact ⟨rfl, rfl⟩
 have h0 := of_decide_eq_false h
 refine ⟨Nat.zero_lt_one, fun _ => qap (fun h => ?_) (fun h => ?_)⟩
 ·have h : i ≥ z s.2.1 := of_decide_eq_true h
  obtain ⟨e1, e2⟩ := add_out (s := s) (i := i) (by rw [decide_eq_false (p := i < z s.2.1) (by omega), Bool.and_false])
  rw [e1, e2]
  exact ⟨rfl, rfl⟩
 have h1 : ¬ i ≥ z s.2.1 := of_decide_eq_false h
 have h1 : i < z s.2.1 := by omega
 have h0 : 0 ≤ i := by omega
 refine ⟨⟨s, rfl, hp⟩, fun _ _ => qap (fun h => ?_) (fun h => ?_)⟩
 ·obtain ⟨e1, e2⟩ := add_mem (s := s) (i := i) h
  rw [e1, e2]
  exact ⟨rfl, rfl⟩
 obtain ⟨e1, e2⟩ := add_new (s := s) (i := i) h h0 h1
 obtain ⟨i1, i2⟩ := idx64 h0 (by omega)
 have hl := hp.ok.lt (r := i.toNat) (by omega)
 have hl : i.toNat / 64 < ln (.int .u64) s.2.2.1 := hl
 rw [i1, i2, Int.toNat_natCast, Int.toNat_natCast, e1, e2]
 have hr : 0 ≤ ((i.toNat / 64 : Nat) : Int) ∧ ((i.toNat / 64 : Nat) : Int) < (ln (.int .u64) s.2.2.1 : Int) := ⟨by omega, Int.ofNat_lt.2 hl⟩
 refine ⟨Nat.zero_lt_one, fun _ => ⟨by omega, fun _ => ⟨Nat.zero_lt_one, fun _ => ⟨hr, fun _ => ⟨Nat.zero_lt_one, fun _ => ⟨hl, fun _ => ⟨by omega, fun _ => ⟨by omega, fun _ => ⟨Nat.zero_lt_one, fun _ => ⟨hr, fun _ => ⟨Nat.zero_lt_one, fun _ => ⟨hl, fun _ => ?_⟩⟩⟩⟩⟩⟩⟩⟩⟩⟩⟩⟩
 exact ⟨rfl, rfl⟩)
theorem c_bitset_Set_Add : qbg E_B3 qem [1] k_bitset_Set_Add.spec := spec_ofIO fun x l hx hp hl => by
 obtain ⟨hd1, rfl⟩ := pins1 hl
 exact ⟨rfl, m_bitset_Set_Add x.1 x.2.1 hd1 hx.1 hx.2.1 hp⟩

def k_bitset_Set_Remove : ConIO := ⟨[.ref 1 40 qaa, .c (.d I)], fun x => WF x.1, fun x => (vb (memS x.1 x.2.1)), fun x => [(1, ⟨.arr 1 40 qaa [remS x.1 x.2.1], 1, [], false, none⟩)]⟩
theorem m_bitset_Set_Remove (s : Den qaa) (i : Int) (hd1 : Hd) (h_s : okD qaa s) (h_i : okD I i) (hp : WF s) : Runs E_B3 (startH E_B3 qdl [(.tref 1 1 [] (0 : Nat) []), (vi i)] [.g 1 1 hd1] [(1, ⟨(.arr 1 40 qaa ([s] : List (Den qaa))), 1, [], false, none⟩)]) (fun r_ h_ => r_ = (vb (memS s i)) ∧ h_ = (0, ⟨(.pins [.g 1 1 hd1]), 0, [], false, none⟩) :: [(1, ⟨.arr 1 40 qaa [remS s i], 1, [], false, none⟩)]) := .tree E_B3_ok (bitset_Set_Remove_t s i hd1) (by
 have hlo := hp.lo
 have hhi := hp.hi
 refine ⟨⟨s, rfl, hp⟩, fun _ _ => qap (fun h => ?_) (fun h => ?_)⟩
 ·have h : memS s i = false := by
   have h2 : (!(memS s i)) = true := h
   simpa using h2
  have e : remS s i = s := by unfold remS; rw [h]; rfl
  rw [h, e]
  exact ⟨rfl, rfl⟩
 have h : memS s i = true := by
  have h2 : (!(memS s i)) = false := h
  simpa using h2
 have e : remS s i = (s.1, s.2.1, remW s.2.2.1 i.toNat, ()) := by unfold remS; rw [h]; rfl
 have h3 := h
 unfold memS at h3
 simp only [Bool.and_eq_true, decide_eq_true_eq] at h3
 obtain ⟨h0, h1, _⟩ := h3
 obtain ⟨i1, i2⟩ := idx64 h0 (by omega)
 have hl := hp.ok.lt (r := i.toNat) (by omega)
 have hl : i.toNat / 64 < ln (.int .u64) s.2.2.1 := hl
 rw [i1, i2, Int.toNat_natCast, Int.toNat_natCast, h, e]
 have hr : 0 ≤ ((i.toNat / 64 : Nat) : Int) ∧ ((i.toNat / 64 : Nat) : Int) < (ln (.int .u64) s.2.2.1 : Int) := ⟨by omega, Int.ofNat_lt.2 hl⟩
 refine ⟨Nat.zero_lt_one, fun _ => ⟨by omega, fun _ => ⟨Nat.zero_lt_one, fun _ => ⟨hr, fun _ => ⟨Nat.zero_lt_one, fun _ => ⟨hl, fun _ => ⟨by omega, fun _ => ⟨by omega, fun _ => ⟨Nat.zero_lt_one, fun _ => ⟨hr, fun _ => ⟨Nat.zero_lt_one, fun _ => ⟨hl, fun _ => ?_⟩⟩⟩⟩⟩⟩⟩⟩⟩⟩⟩⟩
 exact ⟨rfl, rfl⟩)
theorem c_bitset_Set_Remove : qbg E_B3 qdl [1] k_bitset_Set_Remove.spec := spec_ofIO fun x l hx hp hl => by
 obtain ⟨hd1, rfl⟩ := pins1 hl
 exact ⟨rfl, m_bitset_Set_Remove x.1 x.2.1 hd1 hx.1 hx.2.1 hp⟩
def L_B3 : List (FuncId × FSpec) := [] ++ L_B2
theorem L_B3_ok : ∀ x ∈ L_B3, qat (ctx []) x.1 x.2 := L_B2_ok
def LI_B3 : List IoT := [(qem, [1], k_bitset_Set_Add.spec), (qdl, [1], k_bitset_Set_Remove.spec)] ++ LI_B2
theorem LI_B3_ok : ∀ x ∈ LI_B3, qbg (ctx []) x.1 x.2.1 x.2.2 := by
 unfold LI_B3
 simp only [List.cons_append, List.nil_append, List.forall_mem_cons]
 exact ⟨c_bitset_Set_Add, c_bitset_Set_Remove, LI_B2_ok⟩
end Burn.M24
namespace Burn.M24
open Go Go.BE Go.Proofs
set_option maxRecDepth 100000
set_option linter.unusedVariables false
set_option linter.unusedSimpArgs false
open Burn.Bit
noncomputable abbrev E_B4 : Ctx := ctx L_B3 LI_B3
theorem E_B4_ok : EOK E_B4 := qcz L_B3_ok LI_B3_ok
def cuts_B4 : CutL := [([(170, 322)], 234, 0, [0, 1, 2, 7, 33, 34], [], [[]])]
def rets_B4 : FuncId → List (Option Fx)
 | _ => []
def H_B4 : Hints := { cut := cutOf cuts_B4, ret := rets_B4 }
noncomputable def qbu (o : Den (.ptr qaa)) (changed : Bool) (t33 : Int) (t34 : Int) (hd_ : Hd) (s : Den qaa) : Cfg := hcfgx E_B4 f_bitset_Set_combine 0 [(0, (.tref 1 1 [] (0 : Nat) [])), (1, (.tv (.ptr qaa) o)), (2, (.fn qbn [])), (7, (vb changed)), (33, (vi t33)), (34, (vi t34))] [(0, ⟨(.pins [.g 1 1 hd_]), 0, [], false, none⟩), (1, ⟨(.arr 1 40 qaa ([s] : List (Den qaa))), 1, [], false, none⟩)] 2 [cfr E_B4 qbx 0 []]
theorem bitset_Set_Union_t (s : Den qaa) (o : Den (.ptr qaa)) (hd1 : Hd) : run E_B4 H_B4 qbx 3000 (startH E_B4 qbx [(.tref 1 1 [] (0 : Nat) []), (.tv (.ptr qaa) o)] [.g 1 1 hd1] [(1, ⟨(.arr 1 40 qaa ([s] : List (Den qaa))), 1, [], false, none⟩)]) = (.chk (True) (cond (!(qer (some s))) (.know True (rt (vb false) [(0, ⟨(.pins [.g 1 1 hd1]), 0, [], false, none⟩), (1, ⟨(.arr 1 40 qaa ([s] : List (Den qaa))), 1, [], false, none⟩)])) (.chk (True) (cond (!(qer o)) (.know True (.know True (rt (vb false) [(0, ⟨(.pins [.g 1 1 hd1]), 0, [], false, none⟩), (1, ⟨(.arr 1 40 qaa ([s] : List (Den qaa))), 1, [], false, none⟩)]))) (.chk ((0 : Nat) < (1 : Nat)) (.chk ((oN qaa o) = false) (.know True (.know True (cond ((z s.2.1) != (z ((oG qaa o).2.1))) (rt (vb false) [(0, ⟨(.pins [.g 1 1 hd1]), 0, [], false, none⟩), (1, ⟨(.arr 1 40 qaa ([s] : List (Den qaa))), 1, [], false, none⟩)]) (.chk ((0 : Nat) < (1 : Nat)) (.chk ((0 : Nat) < (1 : Nat)) (hd (qbu o false ((ln (.int .u64) s.2.2.1) : Int) (0 : Int) hd1 s))))))))))))) := by kernel_rfl
theorem qeo (o : Den (.ptr qaa)) (changed : Bool) (t33 : Int) (t34 : Int) (hd_ : Hd) (s : Den qaa) : run E_B4 H_B4 qbx 3000 (qbu o changed t33 t34 hd_ s) = (cond (decide (t34 < t33)) (.chk ((0 : Nat) < (1 : Nat)) (.chk ((0 : Nat) < (1 : Nat)) (.chk (0 ≤ t34 ∧ t34 < (ln (.int .u64) s.2.2.1)) (.chk ((0 : Nat) < (1 : Nat)) (.chk (t34.toNat < (ln (.int .u64) s.2.2.1)) (.chk ((oN qaa o) = false) (.chk (0 ≤ t34 ∧ t34 < (ln (.int .u64) ((oG qaa o).2.2.1))) (.chk (True) (.know (okD (.int .u64) (orW (gd (.int .u64) s.2.2.1 t34.toNat) (gd (.int .u64) ((oG qaa o).2.2.1) t34.toNat))) (cond changed (.chk ((0 : Nat) < (1 : Nat)) (.chk ((0 : Nat) < (1 : Nat)) (.chk (0 ≤ t34 ∧ t34 < (ln (.int .u64) s.2.2.1)) (.chk ((0 : Nat) < (1 : Nat)) (.chk (t34.toNat < (ln (.int .u64) s.2.2.1)) (hd (qbu o true t33 (IntKind.wrap .i64 (t34 + (1 : Int))) hd_ (s.1, s.2.1, (st (.int .u64) s.2.2.1 t34.toNat (orW (gd (.int .u64) s.2.2.1 t34.toNat) (gd (.int .u64) ((oG qaa o).2.2.1) t34.toNat))), s.2.2.2)))))))) (.chk ((0 : Nat) < (1 : Nat)) (.chk ((0 : Nat) < (1 : Nat)) (.chk (0 ≤ t34 ∧ t34 < (ln (.int .u64) s.2.2.1)) (.chk ((0 : Nat) < (1 : Nat)) (.chk (t34.toNat < (ln (.int .u64) s.2.2.1)) (.chk ((0 : Nat) < (1 : Nat)) (.chk ((0 : Nat) < (1 : Nat)) (.chk (0 ≤ t34 ∧ t34 < (ln (.int .u64) s.2.2.1)) (.chk ((0 : Nat) < (1 : Nat)) (.chk (t34.toNat < (ln (.int .u64) s.2.2.1)) (hd (qbu o ((orW (gd (.int .u64) s.2.2.1 t34.toNat) (gd (.int .u64) ((oG qaa o).2.2.1) t34.toNat)) != (iOf .u64 (gd (.int .u64) s.2.2.1 t34.toNat))) t33 (IntKind.wrap .i64 (t34 + (1 : Int))) hd_ (s.1, s.2.1, (st (.int .u64) s.2.2.1 t34.toNat (orW (gd (.int .u64) s.2.2.1 t34.toNat) (gd (.int .u64) ((oG qaa o).2.2.1) t34.toNat))), s.2.2.2))))))))))))))))))))))) (rt (vb changed) [(0, ⟨(.pins [.g 1 1 hd_]), 0, [], false, none⟩), (1, ⟨(.arr 1 40 qaa ([s] : List (Den qaa))), 1, [], false, none⟩)])) := by kernel_rfl
def unionS (s : Den qaa) (o : Den (.ptr qaa)) : Den qaa := (s.1, s.2.1, orWs s.2.2.1 (oG qaa o).2.2.1, ())
def unionR (s : Den qaa) (o : Den (.ptr qaa)) : Bool := decide (orWs s.2.2.1 (oG qaa o).2.2.1 ≠ s.2.2.1)

def k_bitset_Set_Union : ConIO := ⟨[.ref 1 40 qaa, .c (.d (.ptr qaa))], fun x => WF x.1 ∧ wfP x.2.1 ∧ z x.1.2.1 = z (oG qaa x.2.1).2.1, fun x => (vb (unionR x.1 x.2.1)), fun x => [(1, ⟨.arr 1 40 qaa [unionS x.1 x.2.1], 1, [], false, none⟩)]⟩
theorem m_bitset_Set_Union (s : Den qaa) (o : Den (.ptr qaa)) (hd1 : Hd) (h_s : okD qaa s) (h_o : okD (.ptr qaa) o) (hp : WF s ∧ wfP o ∧ z s.2.1 = z (oG qaa o).2.1) : Runs E_B4 (startH E_B4 qbx [(.tref 1 1 [] (0 : Nat) []), (.tv (.ptr qaa) o)] [.g 1 1 hd1] [(1, ⟨(.arr 1 40 qaa ([s] : List (Den qaa))), 1, [], false, none⟩)]) (fun r_ h_ => r_ = (vb (unionR s o)) ∧ h_ = (0, ⟨(.pins [.g 1 1 hd1]), 0, [], false, none⟩) :: [(1, ⟨.arr 1 40 qaa [unionS s o], 1, [], false, none⟩)]) := .tree E_B4_ok (bitset_Set_Union_t s o hd1) (by
 obtain ⟨hs, ⟨y, rfl, hy⟩, hn⟩ := hp
 have hn : z s.2.1 = z y.2.1 := hn
 have hv : (!(qer (some s))) = false := by rw [show qer (some s) = true from hs.made]; rfl
 have hv2 : (!(qer (some y))) = false := by rw [show qer (some y) = true from hy.made]; rfl
 have hlen : s.2.2.1.length = y.2.2.1.length := by rw [hs.ok.len, hy.ok.len, hn]
 have hbig : s.2.2.1.length ≤ 2000 := by have := hs.ok.len; have := hs.hi; omega
 refine ⟨trivial, fun _ => qap (fun h => absurd (h.symm.trans hv) (by decide)) fun _ => ⟨trivial, fun _ => qap (fun h => absurd (h.symm.trans hv2) (by decide)) fun _ => ⟨Nat.zero_lt_one, fun _ => ⟨rfl, fun _ _ _ => ?_⟩⟩⟩⟩
 refine qap (fun h => absurd hn (bne_t h)) fun _ => ⟨Nat.zero_lt_one, fun _ => ⟨Nat.zero_lt_one, fun _ => ?_⟩⟩
 have main : ∀ i, i ≤ s.2.2.1.length → Runs E_B4 (qbu (some y) (chgd s.2.2.1 y.2.2.1 i) (s.2.2.1.length : Int) (i : Int) hd1 (s.1, s.2.1, stp s.2.2.1 y.2.2.1 i, s.2.2.2)) (fun r_ h_ => r_ = (vb (unionR s (some y))) ∧ h_ = (0, ⟨(.pins [.g 1 1 hd1]), 0, [], false, none⟩) :: [(1, ⟨.arr 1 40 qaa [unionS s (some y)], 1, [], false, none⟩)]) := by
  refine qes ?_ fun i hi ih => ?_
  ·refine .tree E_B4_ok (qeo _ _ _ _ _ _) ?_
   refine qap (fun h => absurd (of_decide_eq_true h) (Int.lt_irrefl _)) fun _ => ?_
   refine ⟨?_, ?_⟩
   ·rw [chgd_all]; rfl
   ·rw [stp_all]; rfl
  ·refine .tree E_B4_ok (qeo _ _ _ _ _ _) ?_
   have hl : ln (.int .u64) (stp s.2.2.1 y.2.2.1 i) = s.2.2.1.length := stp_len _ _ _
   have hl2 : ln (.int .u64) y.2.2.1 = s.2.2.1.length := hlen.symm
   have hg : gd (.int .u64) (stp s.2.2.1 y.2.2.1 i) i = s.2.2.1.getD i 0 := stp_get hi
   have hst : st (.int .u64) (stp s.2.2.1 y.2.2.1 i) i (orW (s.2.2.1.getD i 0) (gd (.int .u64) y.2.2.1 i)) = stp s.2.2.1 y.2.2.1 (i + 1) := stp_set hi
   have hw : IntKind.wrap .i64 ((i : Int) + 1) = ((i + 1 : Nat) : Int) := wrap64 _ (by omega) (by omega)
   have hc := chgd_succ s.2.2.1 y.2.2.1 i
   simp only [Int.toNat_natCast, hl, hl2, hg, hst, hw]
   refine qap (fun _ => ?_) fun h => absurd (Int.ofNat_lt.2 hi) (of_decide_eq_false h)
   have hr : 0 ≤ (i : Int) ∧ (i : Int) < (s.2.2.1.length : Int) := ⟨Int.natCast_nonneg _, Int.ofNat_lt.2 hi⟩
   refine ⟨Nat.zero_lt_one, fun _ => ⟨Nat.zero_lt_one, fun _ => ⟨hr, fun _ => ⟨Nat.zero_lt_one, fun _ => ⟨hi, fun _ => ⟨rfl, fun _ => ⟨?_, fun _ => ⟨trivial, fun _ _ => ?_⟩⟩⟩⟩⟩⟩⟩⟩
   ·rw [show ln (.int .u64) (oG qaa (some y)).2.2.1 = s.2.2.1.length from hl2]
    exact hr
   refine qap (fun h => ?_) fun h => ?_
   ·refine ⟨Nat.zero_lt_one, fun _ => ⟨Nat.zero_lt_one, fun _ => ⟨hr, fun _ => ⟨Nat.zero_lt_one, fun _ => ⟨hi, fun _ => ?_⟩⟩⟩⟩⟩
    rw [h, Bool.true_or] at hc
    rw [hc] at ih
    simp only [show oG qaa (some y) = y from rfl, hst]
    exact ih
   ·refine ⟨Nat.zero_lt_one, fun _ => ⟨Nat.zero_lt_one, fun _ => ⟨hr, fun _ => ⟨Nat.zero_lt_one, fun _ => ⟨hi, fun _ => ⟨Nat.zero_lt_one, fun _ => ⟨Nat.zero_lt_one, fun _ => ⟨hr, fun _ => ⟨Nat.zero_lt_one, fun _ => ⟨hi, fun _ => ?_⟩⟩⟩⟩⟩⟩⟩⟩⟩⟩
    rw [h, Bool.false_or] at hc
    rw [hc] at ih
    simp only [show oG qaa (some y) = y from rfl, hst]
    exact ih
 have h0 := main 0 (Nat.zero_le _)
 rw [stp_zero] at h0
 exact h0)
theorem c_bitset_Set_Union : qbg E_B4 qbx [1] k_bitset_Set_Union.spec := spec_ofIO fun x l hx hp hl => by
 obtain ⟨hd1, rfl⟩ := pins1 hl
 exact ⟨rfl, m_bitset_Set_Union x.1 x.2.1 hd1 hx.1 hx.2.1 hp⟩
def L_B4 : List (FuncId × FSpec) := [] ++ L_B3
theorem L_B4_ok : ∀ x ∈ L_B4, qat (ctx []) x.1 x.2 := L_B3_ok
def LI_B4 : List IoT := [(qbx, [1], k_bitset_Set_Union.spec)] ++ LI_B3
theorem LI_B4_ok : ∀ x ∈ LI_B4, qbg (ctx []) x.1 x.2.1 x.2.2 := by
 unfold LI_B4
 simp only [List.cons_append, List.nil_append, List.forall_mem_cons]
 exact ⟨c_bitset_Set_Union, LI_B3_ok⟩
end Burn.M24
namespace Burn.M24
open Go Go.BE Go.Proofs
set_option maxRecDepth 100000
set_option linter.unusedVariables false
set_option linter.unusedSimpArgs false
open Burn.Cfg
noncomputable abbrev E_B5 : Ctx := ctx L_B4 LI_B4
theorem E_B5_ok : EOK E_B5 := qcz L_B4_ok LI_B4_ok
def cuts_B5 : CutL := []
def rets_B5 : FuncId → List (Option Fx)
 | 233 => [some (.own 8 I)]
 | _ => []
def H_B5 : Hints := { cut := cutOf cuts_B5, ret := rets_B5 }
theorem cfg_own_t (l : List (Den I)) : run E_B5 H_B5 qdk 3000 (start E_B5 qdk [(.tv (.sl 8 I) l)]) = (.chk (((0 : Nat) + (ln I l)) * 8 ≤ roomB) (.chk (((ln I (ap I ([] : List (Den I)) l)) : Int) = ((ln I (ap I ([] : List (Den I)) l)) : Int)) (.chk (((ln I (ap I ([] : List (Den I)) l)) : Int) = ((ln I (ap I ([] : List (Den I)) l)) : Int)) (rt (.osl 0 0 [] none) [(0, ⟨(.arr 0 8 I (ap I ([] : List (Den I)) l)), 0, [], false, none⟩)])))) := by kernel_rfl
theorem cfg_inside_t (f : Den qai) (at_ : Den qak) : run E_B5 H_B5 f_cfg_inside 3000 (start E_B5 f_cfg_inside [(.tv qai f), (.tv qak at_)]) = (cond (decide ((z at_.1) ≥ (0 : Int))) (cond (decide ((z at_.1) < ((ln qad f.2.2.2.2.1) : Int))) (cond (decide ((z at_.2.1) ≥ (-1 : Int))) (.chk (0 ≤ (z at_.1) ∧ (z at_.1) < (ln qad f.2.2.2.2.1)) (rt (vb (decide ((z at_.2.1) ≤ ((ln qah ((gd qad f.2.2.2.2.1 (((z at_.1)).toNat)).2.1)) : Int)))) [])) (rt (vb false) [])) (rt (vb false) [])) (rt (vb false) [])) := by kernel_rfl
abbrev Fn := Den qai
abbrev Blk := Den qad
abbrev qfn (f : Fn) : List (Den qad) := f.2.2.2.2.1
abbrev bIns (b : Blk) : List (Den qah) := b.2.1
abbrev bPar (b : Blk) : List (Den I) := b.1
abbrev tArgs (b : Blk) : List (Den I) := b.2.2.1.2.1
abbrev tSuc (b : Blk) : List (Den qaf) := b.2.2.1.2.2.2.1
abbrev iArgs (i : Den qah) : List (Den I) := i.2.2.2.1
abbrev iDst (i : Den qah) : Int := i.2.2.1
abbrev blk (f : Fn) (n : Int) : Blk := gd qad (qfn f) n.toNat
def insideF (f : Fn) (p : Den qak) : Bool := decide (z p.1 ≥ 0) && (decide (z p.1 < (ln qad (qfn f) : Int)) && (decide (z p.2.1 ≥ -1) && decide (z p.2.1 ≤ (ln qah (bIns (blk f (z p.1))) : Int))))
def idL (l : List (Den I)) : Den (.sl 8 I) := l
def okB (l : List (Den qad)) : Prop := room 136 (ln qad l) ∧ ∀ i, i < ln qad l → okD qad (gd qad l i)
theorem okB_of {f : Fn} (h : okD qai f) : okB (qfn f) := by
 obtain ⟨_, _, _, _, h1, _⟩ := h
 exact ⟨h1.1, fun i hi => ok_gd h1 hi⟩
theorem okB_suc {l : List (Den qad)} (h : okB l) {i : Nat} (hi : i < ln qad l) : okD (.sl 32 qaf) (tSuc (gd qad l i)) := (h.2 i hi).2.2.1.2.2.2.1

def k_cfg_own : Con := conO 99 [.d (.sl 8 I)] (.sl 8 I) (fun x => True) fun x => idL x.1
theorem m_cfg_own (l : List (Den I)) (h_l : okD (.sl 8 I) l) (hp : True) : Runs E_B5 (start E_B5 qdk [(.tv (.sl 8 I) l)]) (fun r_ h_ => r_ = (ownRes 99 (.sl 8 I) (idL l)).1 ∧ h_ = (ownRes 99 (.sl 8 I) (idL l)).2) := .tree E_B5_ok (cfg_own_t l) (by
 simp only [sS]
 have := h_l.1.1
 rw [Nat.zero_add]
 exact ⟨this, fun _ => ⟨rfl, rfl⟩⟩)
theorem c_cfg_own : qat E_B5 qdk k_cfg_own.spec := qcj fun x hx hp => ⟨rfl, m_cfg_own x.1 hx.1 hp⟩

def k_cfg_inside : Con := con [.d qai, .d qak] .bool (fun x => True) fun x => insideF x.1 x.2.1
theorem m_cfg_inside (f : Den qai) (at_ : Den qak) (h_f : okD qai f) (h_at_ : okD qak at_) (hp : True) : Runs E_B5 (start E_B5 f_cfg_inside [(.tv qai f), (.tv qak at_)]) (fun r_ h_ => r_ = (vb (insideF f at_)) ∧ h_ = []) := .tree E_B5_ok (cfg_inside_t f at_) (by
 unfold insideF
 simp only [sS]
 refine ⟨fun h0 => ⟨fun h1 => ⟨fun h2 => ?_, fun h2 => ?_⟩, fun h1 => ?_⟩, fun h0 => ?_⟩
 ·have a := of_decide_eq_true h0
  have b := of_decide_eq_true h1
  rw [h0, h1, h2]
  exact ⟨⟨a, b⟩, fun _ => rfl⟩
 ·rw [h0, h1, h2]; rfl
 ·rw [h0, h1]; rfl
 ·rw [h0]; rfl)
theorem c_cfg_inside : qat E_B5 f_cfg_inside k_cfg_inside.spec := qcj fun x hx hp => ⟨rfl, m_cfg_inside x.1 x.2.1 hx.1 hx.2.1 hp⟩
def L_B5 : List (FuncId × FSpec) := [(qdk, k_cfg_own.spec), (f_cfg_inside, k_cfg_inside.spec)] ++ L_B4
theorem L_B5_ok : ∀ x ∈ L_B5, qat (ctx []) x.1 x.2 := by
 unfold L_B5
 simp only [List.cons_append, List.nil_append, List.forall_mem_cons]
 exact ⟨c_cfg_own, c_cfg_inside, L_B4_ok⟩
def LI_B5 : List IoT := [] ++ LI_B4
theorem LI_B5_ok : ∀ x ∈ LI_B5, qbg (ctx []) x.1 x.2.1 x.2.2 := by
 unfold LI_B5
 simp only [List.cons_append, List.nil_append, List.forall_mem_cons]
 exact LI_B4_ok
end Burn.M24
namespace Burn.M24
open Go Go.BE Go.Proofs
set_option maxRecDepth 100000
set_option linter.unusedVariables false
set_option linter.unusedSimpArgs false
open Burn.Cfg
noncomputable abbrev E_B6 : Ctx := ctx L_B5 LI_B5
theorem E_B6_ok : EOK E_B6 := qcz L_B5_ok LI_B5_ok
def cuts_B6 : CutL := [([], 238, 0, [6, 44, 45, 46], [], [])]
def rets_B6 : FuncId → List (Option Fx)
 | 168 => [some (.dat (.sl 8 I))]
 | 238 => [some (.dat (.sl 8 I))]
 | _ => []
def H_B6 : Hints := { cut := cutOf cuts_B6, ret := rets_B6 }
noncomputable def cfg_Reads_L0 (t44 : List (Den qaf)) (t45 : Int) (t46 : Int) (l : List (Den I)) : Cfg := hcfg E_B6 qfz 0 [(6, (.osl 0 0 [] none)), (44, (.tv (.sl 32 qaf) t44)), (45, (vi t45)), (46, (vi t46))] [(0, ⟨(.arr 0 8 I l), 0, [], false, none⟩)] 1
theorem cfg_Reads_t (f : Den qai) (at_ : Den qak) : run E_B6 H_B6 qfz 3000 (start E_B6 qfz [(.tv qai f), (.tv qak at_)]) = (.chk (True) (.know True (cond (!(insideF f at_)) (rt (.tv (.sl 8 I) ([] : List (Den I))) []) (cond (decide ((z at_.2.1) < (0 : Int))) (rt (.tv (.sl 8 I) ([] : List (Den I))) []) (.chk (0 ≤ (z at_.1) ∧ (z at_.1) < (ln qad f.2.2.2.2.1)) (cond (decide ((z at_.2.1) < ((ln qah ((gd qad f.2.2.2.2.1 (((z at_.1)).toNat)).2.1)) : Int))) (.chk (0 ≤ (z at_.2.1) ∧ (z at_.2.1) < (ln qah ((gd qad f.2.2.2.2.1 (((z at_.1)).toNat)).2.1))) (.chk (True) (.know True (rt (.tv (.sl 8 I) (idL (gd qah ((gd qad f.2.2.2.2.1 (((z at_.1)).toNat)).2.1) (((z at_.2.1)).toNat)).2.2.2.1)) [])))) (.chk (True) (.know True (hd (cfg_Reads_L0 ((gd qad f.2.2.2.2.1 (((z at_.1)).toNat)).2.2.1.2.2.2.1) ((ln qaf ((gd qad f.2.2.2.2.1 (((z at_.1)).toNat)).2.2.1.2.2.2.1)) : Int) (0 : Int) (idL (gd qad f.2.2.2.2.1 (((z at_.1)).toNat)).2.2.1.2.1))))))))))) := by kernel_rfl
theorem cfg_Reads_L0_t (t44 : List (Den qaf)) (t45 : Int) (t46 : Int) (l : List (Den I)) : run E_B6 H_B6 qfz 3000 (cfg_Reads_L0 t44 t45 t46 l) = (cond (decide (t46 < t45)) (.chk (0 ≤ t46 ∧ t46 < (ln qaf t44)) (.chk (((ln I l) + (ln I ((gd qaf t44 t46.toNat).2.1))) * 8 ≤ roomB) (hd (cfg_Reads_L0 t44 t45 (IntKind.wrap .i64 (t46 + (1 : Int))) (ap I l ((gd qaf t44 t46.toNat).2.1)))))) (rt (.tv (.sl 8 I) l) [])) := by kernel_rfl
theorem cfg_Writes_t (f : Den qai) (at_ : Den qak) : run E_B6 H_B6 qbt 3000 (start E_B6 qbt [(.tv qai f), (.tv qak at_)]) = (.chk (True) (.know True (cond (!(insideF f at_)) (rt (.tv (.sl 8 I) ([] : List (Den I))) []) (.chk (0 ≤ (z at_.1) ∧ (z at_.1) < (ln qad f.2.2.2.2.1)) (cond ((z at_.2.1) == (-1 : Int)) (cond ((z at_.1) == (0 : Int)) (.chk (True) (.chk (((ln I (idL f.2.1)) + (ln I ((gd qad f.2.2.2.2.1 (((z at_.1)).toNat)).1))) * 8 ≤ roomB) (.know True (rt (.tv (.sl 8 I) (ap I (idL f.2.1) ((gd qad f.2.2.2.2.1 (((z at_.1)).toNat)).1))) [])))) (cond ((z at_.2.1) == (-1 : Int)) (.chk (True) (.know True (rt (.tv (.sl 8 I) (idL (gd qad f.2.2.2.2.1 (((z at_.1)).toNat)).1)) []))) (cond (decide ((z at_.2.1) < ((ln qah ((gd qad f.2.2.2.2.1 (((z at_.1)).toNat)).2.1)) : Int))) (.chk (0 ≤ (z at_.2.1) ∧ (z at_.2.1) < (ln qah ((gd qad f.2.2.2.2.1 (((z at_.1)).toNat)).2.1))) (cond (decide ((z ((gd qah ((gd qad f.2.2.2.2.1 (((z at_.1)).toNat)).2.1) (((z at_.2.1)).toNat)).2.2.1)) ≥ (0 : Int))) (.chk (0 ≤ (z at_.2.1) ∧ (z at_.2.1) < (ln qah ((gd qad f.2.2.2.2.1 (((z at_.1)).toNat)).2.1))) (rt (.tv (.sl 8 I) ([(gd qah ((gd qad f.2.2.2.2.1 (((z at_.1)).toNat)).2.1) (((z at_.2.1)).toNat)).2.2.1] : List (Den I))) [])) (rt (.tv (.sl 8 I) ([] : List (Den I))) []))) (rt (.tv (.sl 8 I) ([] : List (Den I))) [])))) (cond ((z at_.2.1) == (-1 : Int)) (.chk (True) (.know True (rt (.tv (.sl 8 I) (idL (gd qad f.2.2.2.2.1 (((z at_.1)).toNat)).1)) []))) (cond (decide ((z at_.2.1) < ((ln qah ((gd qad f.2.2.2.2.1 (((z at_.1)).toNat)).2.1)) : Int))) (.chk (0 ≤ (z at_.2.1) ∧ (z at_.2.1) < (ln qah ((gd qad f.2.2.2.2.1 (((z at_.1)).toNat)).2.1))) (cond (decide ((z ((gd qah ((gd qad f.2.2.2.2.1 (((z at_.1)).toNat)).2.1) (((z at_.2.1)).toNat)).2.2.1)) ≥ (0 : Int))) (.chk (0 ≤ (z at_.2.1) ∧ (z at_.2.1) < (ln qah ((gd qad f.2.2.2.2.1 (((z at_.1)).toNat)).2.1))) (rt (.tv (.sl 8 I) ([(gd qah ((gd qad f.2.2.2.2.1 (((z at_.1)).toNat)).2.1) (((z at_.2.1)).toNat)).2.2.1] : List (Den I))) [])) (rt (.tv (.sl 8 I) ([] : List (Den I))) []))) (rt (.tv (.sl 8 I) ([] : List (Den I))) [])))))))) := by kernel_rfl
def qfr (f : Fn) : Prop := szD qai f ≤ 1048576
def flatA : List (Den qaf) → List (Den I)
 | [] => []
 | e :: l => ap I e.2.1 (flatA l)
theorem sz_I : ∀ (l : List (Den I)), szD (.sl 8 I) l = ln I l
 | [] => rfl
 | a :: l => by
  have := sz_I l
  show 0 + 1 + szD (.sl 8 I) l = l.length + 1
  rw [this]
  unfold ln
  omega
theorem sz_cons {b : Nat} {S : Sh} {x : Den S} {l : List (Den S)} : szD (.sl b S) (x :: l) = szD S x + 1 + szD (.sl b S) l := rfl
theorem sz_mem {b : Nat} {S : Sh} : ∀ {l : List (Den S)} {i : Nat}, i < ln S l → szD S (gd S l i) + 1 ≤ szD (.sl b S) l
 | [], i, h => absurd h (Nat.not_lt_zero i)
 | x :: l, 0, h => by
  rw [sz_cons]
  show szD S x + 1 ≤ _
  omega
 | x :: l, i + 1, h => by
  have h1 : i < ln S l := Nat.lt_of_succ_lt_succ h
  have := sz_mem (b := b) h1
  rw [sz_cons]
  show szD S (gd S l i) + 1 ≤ _
  omega
theorem sz_flat : ∀ l : List (Den qaf), ln I (flatA l) ≤ szD (.sl 32 qaf) l
 | [] => Nat.le_refl _
 | e :: l => by
  have h := sz_flat l
  have h1 : szD qaf e = 0 + (szD (.sl 8 I) e.2.1 + 0) := rfl
  rw [sz_cons, flatA, ln_ap, h1, sz_I]
  omega
theorem sz_func (f : Fn) : szD qai f = szD .str f.1 + (szD (.sl 8 I) f.2.1 + (0 + (szD (.sl 8 I) f.2.2.2.1 + (szD (.sl 136 qad) f.2.2.2.2.1 + 0)))) := rfl
theorem sz_blk (b : Blk) : szD qad b = szD (.sl 8 I) b.1 + (szD (.sl 80 qah) b.2.1 + ((0 + (szD (.sl 8 I) b.2.2.1.2.1 + (szD (.sl 8 I) b.2.2.1.2.2.1 + (szD (.sl 32 qaf) b.2.2.1.2.2.2.1 + (0 + 0))))) + 0)) := rfl
def readsF (f : Fn) (p : Den qak) : Den (.sl 8 I) := cond (!insideF f p) [] (cond (decide (z p.2.1 < 0)) [] (cond (decide (z p.2.1 < (ln qah (bIns (blk f (z p.1))) : Int))) (iArgs (gd qah (bIns (blk f (z p.1))) (z p.2.1).toNat)) (ap I (tArgs (blk f (z p.1))) (flatA (tSuc (blk f (z p.1)))))))
def writesF (f : Fn) (p : Den qak) : Den (.sl 8 I) := cond (!insideF f p) [] (cond (decide (z p.2.1 < 0)) (cond (z p.1 == 0) (ap I f.2.1 (bPar (blk f (z p.1)))) (bPar (blk f (z p.1)))) (cond (decide (z p.2.1 < (ln qah (bIns (blk f (z p.1))) : Int))) (cond (decide (iDst (gd qah (bIns (blk f (z p.1))) (z p.2.1).toNat) ≥ 0)) [iDst (gd qah (bIns (blk f (z p.1))) (z p.2.1).toNat)] []) []))
theorem inside_b {f : Fn} {p : Den qak} (h : insideF f p = true) : (0 ≤ z p.1 ∧ z p.1 < (ln qad (qfn f) : Int)) ∧ (-1 ≤ z p.2.1 ∧ z p.2.1 ≤ (ln qah (bIns (blk f (z p.1))) : Int)) := by
 unfold insideF at h
 simp only [Bool.and_eq_true, decide_eq_true_eq] at h
 exact ⟨⟨h.1, h.2.1⟩, h.2.2.1, h.2.2.2⟩
theorem small_b {f : Fn} (hp : qfr f) {n : Int} (h : 0 ≤ n ∧ n < (ln qad (qfn f) : Int)) : szD qad (blk f n) + ln I f.2.1 ≤ 1048576 := by
 have h1 := sz_mem (b := 136) (l := qfn f) (i := n.toNat) (by omega)
 have h2 := sz_func f
 have h3 := sz_I f.2.1
 unfold qfr at hp
 unfold blk
 have e : qfn f = f.2.2.2.2.1 := rfl
 rw [e] at h1 ⊢
 omega
theorem roomS {n : Nat} (h : n ≤ 4194304) : n * 8 ≤ roomB := by
 unfold roomB
 omega
theorem cfg_Reads_l (l : List (Den qaf)) (hr : room 32 (ln qaf l)) : ∀ i, i ≤ ln qaf l → ∀ o : List (Den I), ln I o + ln I (flatA (l.drop i)) ≤ 1048576 → Runs E_B6 (cfg_Reads_L0 l (ln qaf l : Nat) i o) (fun x h => x = .tv (.sl 8 I) (ap I o (flatA (l.drop i))) ∧ h = []) :=
 qes (fun o ho => .tree E_B6_ok (cfg_Reads_L0_t _ _ _ _) (by
  rw [qcf]
  simp only [sS, sL,  flatA]
  unfold ap
  rw [List.append_nil]))
  fun i hi ih o ho => .tree E_B6_ok (cfg_Reads_L0_t _ _ _ _) (by
   rw [qbz hi, flatA, ln_ap] at ho
   simp only [sS, sL,  hi, wrapS hi (qdm hr)]
   refine ⟨roomS (by omega), fun _ => ?_⟩
   have := ih (ap I o (gd qaf l i).2.1) (by rw [ln_ap]; omega)
   rw [qbz hi, flatA]
   unfold ap at this ⊢
   rw [← List.append_assoc]
   exact this)
def k_cfg_Reads : Con := con [.d qai, .d qak] (.sl 8 I) (fun x => qfr x.1) fun x => readsF x.1 x.2.1
theorem m_cfg_Reads (f : Den qai) (at_ : Den qak) (h_f : okD qai f) (h_at_ : okD qak at_) (hp : qfr f) : Runs E_B6 (start E_B6 qfz [(.tv qai f), (.tv qak at_)]) (fun r_ h_ => r_ = (.tv (.sl 8 I) (readsF f at_)) ∧ h_ = []) := .tree E_B6_ok (cfg_Reads_t f at_) (by
 unfold readsF
 simp only [sS]
 refine ⟨fun h => ?_, fun h => ⟨fun h2 => ?_, fun h2 => ?_⟩⟩
 ·rw [h]; rfl
 ·rw [h, h2]; rfl
 ·have hi : insideF f at_ = true := by simpa using h
  have b := inside_b hi
  have sb := small_b hp b.1
  have a2 := of_decide_eq_false h2
  rw [h, h2]
  refine ⟨b.1, fun _ => ⟨fun h3 => ?_, fun h3 => ?_⟩⟩
  ·rw [h3]
   exact ⟨⟨by omega, of_decide_eq_true h3⟩, fun _ => rfl⟩
  ·rw [h3]
   have hb := sz_blk (blk f (z at_.1))
   have hf := sz_flat (blk f (z at_.1)).2.2.1.2.2.2.1
   have ha := sz_I (blk f (z at_.1)).2.2.1.2.1
   have hbn : (z at_.1).toNat < ln qad (qfn f) := by omega
   exact cfg_Reads_l _ (okB_suc (okB_of h_f) hbn).1 0 (Nat.zero_le _) _ (by
    show ln I (blk f (z at_.1)).2.2.1.2.1 + ln I (flatA (blk f (z at_.1)).2.2.1.2.2.2.1) ≤ _
    omega))
theorem c_cfg_Reads : qat E_B6 qfz k_cfg_Reads.spec := qcj fun x hx hp => ⟨rfl, m_cfg_Reads x.1 x.2.1 hx.1 hx.2.1 hp⟩

def k_cfg_Writes : Con := con [.d qai, .d qak] (.sl 8 I) (fun x => qfr x.1) fun x => writesF x.1 x.2.1
theorem m_cfg_Writes (f : Den qai) (at_ : Den qak) (h_f : okD qai f) (h_at_ : okD qak at_) (hp : qfr f) : Runs E_B6 (start E_B6 qbt [(.tv qai f), (.tv qak at_)]) (fun r_ h_ => r_ = (.tv (.sl 8 I) (writesF f at_)) ∧ h_ = []) := .tree E_B6_ok (cfg_Writes_t f at_) (by
 unfold writesF
 simp only [sS]
 refine ⟨fun h => ?_, fun h => ?_⟩
 ·rw [h]; rfl
 have hi : insideF f at_ = true := by simpa using h
 have b := inside_b hi
 have sb := small_b hp b.1
 have hbn : (z at_.1).toNat < ln qad (qfn f) := by omega
 have hob := (okB_of h_f).2 _ hbn
 have hb := sz_blk (blk f (z at_.1))
 have h1 := sz_I (blk f (z at_.1)).1
 have hroom : (ln I f.2.1 + ln I (blk f (z at_.1)).1) * 8 ≤ roomB := roomS (by omega)
 rw [h]
 refine ⟨b.1, fun _ => ⟨fun h2 => ?_, fun h2 => ?_⟩⟩
 ·have e2 : z at_.2.1 = -1 := by simpa using h2
  have d2 : decide (z at_.2.1 < 0) = true := by rw [e2]; rfl
  rw [d2]
  refine ⟨fun h3 => ?_, fun h3 => ?_⟩
  ·rw [h3]
   exact ⟨hroom, fun _ => rfl⟩
  ·rw [h3]
   refine ⟨fun _ => rfl, fun h4 => absurd (h2.symm.trans h4) (by decide)⟩
 ·have d2 : decide (z at_.2.1 < 0) = false := by
   have e2 : z at_.2.1 ≠ -1 := by simpa using h2
   have := b.2.1
   simp only [decide_eq_false_iff_not]
   omega
  rw [d2]
  have a2 := of_decide_eq_false d2
  refine ⟨fun h4 => absurd (h2.symm.trans h4) (by decide), fun _ => ⟨fun h3 => ?_, fun h3 => ?_⟩⟩
  ·rw [h3]
   have a3 := of_decide_eq_true h3
   have f1 : 0 ≤ z at_.2.1 ∧ z at_.2.1 < (ln qah (gd qad f.2.2.2.2.1 (z at_.1).toNat).2.1 : Int) := ⟨by omega, a3⟩
   refine ⟨f1, fun _ => ⟨fun h4 => ⟨f1, fun _ => ?_⟩, fun h4 => ?_⟩⟩
   ·rw [show decide (iDst (gd qah (bIns (blk f (z at_.1))) (z at_.2.1).toNat) ≥ 0) = true from h4]
    rfl
   ·rw [show decide (iDst (gd qah (bIns (blk f (z at_.1))) (z at_.2.1).toNat) ≥ 0) = false from h4]
    rfl
  ·rw [h3]
   rfl)
theorem c_cfg_Writes : qat E_B6 qbt k_cfg_Writes.spec := qcj fun x hx hp => ⟨rfl, m_cfg_Writes x.1 x.2.1 hx.1 hx.2.1 hp⟩
def L_B6 : List (FuncId × FSpec) := [(qfz, k_cfg_Reads.spec), (qbt, k_cfg_Writes.spec)] ++ L_B5
theorem L_B6_ok : ∀ x ∈ L_B6, qat (ctx []) x.1 x.2 := by
 unfold L_B6
 simp only [List.cons_append, List.nil_append, List.forall_mem_cons]
 exact ⟨c_cfg_Reads, c_cfg_Writes, L_B5_ok⟩
def LI_B6 : List IoT := [] ++ LI_B5
theorem LI_B6_ok : ∀ x ∈ LI_B6, qbg (ctx []) x.1 x.2.1 x.2.2 := by
 unfold LI_B6
 simp only [List.cons_append, List.nil_append, List.forall_mem_cons]
 exact LI_B5_ok
end Burn.M24
namespace Burn.M24
open Go Go.BE Go.Proofs
set_option maxRecDepth 100000
set_option linter.unusedVariables false
set_option linter.unusedSimpArgs false
open Burn.Cfg
open Burn.Bit
noncomputable abbrev E_B7 : Ctx := ctx L_B6 LI_B6
theorem E_B7_ok : EOK E_B7 := qcz L_B6_ok LI_B6_ok
def cuts_B7 : CutL := [([], 171, 0, [2, 3, 5, 9, 10], [], []),
 ([(171, 1732)], 236, 0, [1, 2, 3, 13, 14, 15], [], [[2, 3, 5, 9, 10]]),
 ([(171, 1732)], 236, 2, [2, 28, 29, 30], [], [[2, 3, 5, 9, 10]])]
def rets_B7 : FuncId → List (Option Fx)
 | _ => []
def H_B7 : Hints := { cut := cutOf cuts_B7, ret := rets_B7 }
noncomputable def qbm (b : Int) (index : Int) (step_0 : Den qag) (i : Int) (hd_ : Hd) (r1 : Den qaa) : Cfg := hcfg E_B7 qax 0 [(2, (vi b)), (3, (vi index)), (5, (.ref 2 0)), (9, (.fn qbp [(.rop [(.rtp qag step_0)] 0), (.ref 2 0)])), (10, (vi i))] [(0, ⟨(.pins [.g 1 1 hd_]), 0, [], false, none⟩), (1, ⟨(.arr 1 40 qaa ([r1] : List (Den qaa))), 1, [], false, none⟩), (2, ⟨(.cells [(.tref 1 1 [] (0 : Nat) [])]), 2, [], false, none⟩)] 3
noncomputable def qcc (t1 : Den qag) (at_0 : Int) (at_1 : Int) (t13 : List (Den I)) (t14 : Int) (t15 : Int) (b : Int) (index : Int) (step_0 : Den qag) (i : Int) (hd_ : Hd) (r1 : Den qaa) : Cfg := hcfgx E_B7 qbp 0 [(1, (.rop [(.rtp qag t1)] 0)), (2, (.ref 2 0)), (3, (.rop [(vi at_0), (vi at_1)] 0)), (13, (.tv (.sl 8 I) t13)), (14, (vi t14)), (15, (vi t15))] [(0, ⟨(.pins [.g 1 1 hd_]), 0, [], false, none⟩), (1, ⟨(.arr 1 40 qaa ([r1] : List (Den qaa))), 1, [], false, none⟩), (2, ⟨(.cells [(.tref 1 1 [] (0 : Nat) [])]), 2, [], false, none⟩)] 3 [cfr E_B7 qax 1 [(2, (vi b)), (3, (vi index)), (5, (.ref 2 0)), (9, (.fn qbp [(.rop [(.rtp qag step_0)] 0), (.ref 2 0)])), (10, (vi i))]]
noncomputable def qcb (t28 : List (Den I)) (t29 : Int) (t30 : Int) (b : Int) (index : Int) (step_0 : Den qag) (i : Int) (hd_ : Hd) (r1 : Den qaa) : Cfg := hcfgx E_B7 qbp 2 [(2, (.ref 2 0)), (28, (.tv (.sl 8 I) t28)), (29, (vi t29)), (30, (vi t30))] [(0, ⟨(.pins [.g 1 1 hd_]), 0, [], false, none⟩), (1, ⟨(.arr 1 40 qaa ([r1] : List (Den qaa))), 1, [], false, none⟩), (2, ⟨(.cells [(.tref 1 1 [] (0 : Nat) [])]), 2, [], false, none⟩)] 3 [cfr E_B7 qax 1 [(2, (vi b)), (3, (vi index)), (5, (.ref 2 0)), (9, (.fn qbp [(.rop [(.rtp qag step_0)] 0), (.ref 2 0)])), (10, (vi i))]]
theorem liveness_analysis_back_t (a : Den qag) (live : Den qaa) (b : Int) (index : Int) (hd1 : Hd) : run E_B7 H_B7 qax 3000 (startH E_B7 qax [(.rtp qag a), (.tref 1 1 [] (0 : Nat) []), (vi b), (vi index)] [.g 1 1 hd1] [(1, ⟨(.arr 1 40 qaa ([live] : List (Den qaa))), 1, [], false, none⟩)]) = (.chk (0 ≤ b ∧ b < (ln qad a.1.2.2.2.2.1)) (hd (qbm b index a ((ln qah ((gd qad a.1.2.2.2.2.1 b.toNat).2.1)) : Int) hd1 live))) := by kernel_rfl
theorem qfa (b : Int) (index : Int) (step_0 : Den qag) (i : Int) (hd_ : Hd) (r1 : Den qaa) : run E_B7 H_B7 qax 3000 (qbm b index step_0 i hd_ r1) = (cond (decide (i ≥ index)) (.chk (qfr step_0.1) (.know (okD (.sl 8 I) (writesF step_0.1 (b, i, ()))) (hd (qcc step_0 b i (writesF step_0.1 (b, i, ())) ((ln I (writesF step_0.1 (b, i, ()))) : Int) (0 : Int) b index step_0 i hd_ r1)))) (rt (.tref 1 1 [] (0 : Nat) []) [(0, ⟨(.pins [.g 1 1 hd_]), 0, [], false, none⟩), (1, ⟨(.arr 1 40 qaa ([r1] : List (Den qaa))), 1, [], false, none⟩)])) := by kernel_rfl
theorem qdx (t1 : Den qag) (at_0 : Int) (at_1 : Int) (t13 : List (Den I)) (t14 : Int) (t15 : Int) (b : Int) (index : Int) (step_0 : Den qag) (i : Int) (hd_ : Hd) (r1 : Den qaa) : run E_B7 H_B7 qax 3000 (qcc t1 at_0 at_1 t13 t14 t15 b index step_0 i hd_ r1) = (cond (decide (t15 < t14)) (.chk (0 ≤ t15 ∧ t15 < (ln I t13)) (.chk (WF r1) (.know True (hd (qcc t1 at_0 at_1 t13 t14 (IntKind.wrap .i64 (t15 + (1 : Int))) b index step_0 i hd_ (remS r1 (gd I t13 t15.toNat))))))) (.chk (qfr t1.1) (.know (okD (.sl 8 I) (readsF t1.1 (at_0, at_1, ()))) (hd (qcb (readsF t1.1 (at_0, at_1, ())) ((ln I (readsF t1.1 (at_0, at_1, ()))) : Int) (0 : Int) b index step_0 i hd_ r1))))) := by kernel_rfl
theorem qdw (t28 : List (Den I)) (t29 : Int) (t30 : Int) (b : Int) (index : Int) (step_0 : Den qag) (i : Int) (hd_ : Hd) (r1 : Den qaa) : run E_B7 H_B7 qax 3000 (qcb t28 t29 t30 b index step_0 i hd_ r1) = (cond (decide (t30 < t29)) (.chk (0 ≤ t30 ∧ t30 < (ln I t28)) (.chk (WF r1) (.know True (hd (qcb t28 t29 (IntKind.wrap .i64 (t30 + (1 : Int))) b index step_0 i hd_ (addS r1 (gd I t28 t30.toNat))))))) (hd (qbm b index step_0 (IntKind.wrap .i64 (i - (1 : Int))) hd_ r1))) := by kernel_rfl
abbrev SetD := Den qaa
theorem WF.rem {s : SetD} (h : WF s) (i : Int) : WF (remS s i) ∧ (remS s i).2.1 = s.2.1 := by
 unfold remS
 cases hm : memS s i with
 | false => exact ⟨h, rfl⟩
 | true =>
  unfold memS at hm
  simp only [Bool.and_eq_true, decide_eq_true_eq] at hm
  exact ⟨⟨h.made, h.lo, h.hi, okW_rem h.ok (by omega)⟩, rfl⟩
theorem WF.add {s : SetD} (h : WF s) (i : Int) : WF (addS s i) ∧ (addS s i).2.1 = s.2.1 := by
 unfold addS
 cases hm : (memS s i || !(decide (0 ≤ i) && decide (i < z s.2.1))) with
 | true => exact ⟨h, rfl⟩
 | false =>
  simp only [Bool.or_eq_false_iff, Bool.not_eq_false', Bool.and_eq_true, decide_eq_true_eq] at hm
  exact ⟨⟨h.made, h.lo, h.hi, okW_add h.ok (by omega)⟩, rfl⟩
def remL (s : SetD) (l : List (Den I)) : SetD := List.foldl (fun s (i : Int) => remS s i) s l
def addL (s : SetD) (l : List (Den I)) : SetD := List.foldl (fun s (i : Int) => addS s i) s l
theorem WF.remL {l : List (Den I)} : ∀ {s : SetD}, WF s → WF (remL s l) ∧ (Burn.M24.remL s l).2.1 = s.2.1 := by
 induction l with
 | nil => exact fun h => ⟨h, rfl⟩
 | cons x l ih => exact fun h => ⟨(ih (h.rem x).1).1, (ih (h.rem x).1).2.trans (h.rem x).2⟩
theorem WF.addL {l : List (Den I)} : ∀ {s : SetD}, WF s → WF (addL s l) ∧ (Burn.M24.addL s l).2.1 = s.2.1 := by
 induction l with
 | nil => exact fun h => ⟨h, rfl⟩
 | cons x l ih => exact fun h => ⟨(ih (h.add x).1).1, (ih (h.add x).1).2.trans (h.add x).2⟩
def stepF (f : Fn) (p : Den qak) (s : SetD) : SetD := addL (remL s (writesF f p)) (readsF f p)
theorem WF.step {s : SetD} (h : WF s) (f : Fn) (p : Den qak) : WF (stepF f p s) ∧ (stepF f p s).2.1 = s.2.1 := ⟨(h.remL.1.addL).1, (h.remL.1.addL).2.trans h.remL.2⟩
def backL (f : Fn) (b : Int) : Nat → Int → SetD → SetD
 | 0, _, s => s
 | n + 1, i, s => backL f b n (i - 1) (stepF f (b, i, ()) s)
theorem WF.backL {f : Fn} {b : Int} : ∀ {n : Nat} {i : Int} {s : SetD}, WF s → WF (backL f b n i s) ∧ (Burn.M24.backL f b n i s).2.1 = s.2.1
 | 0, _, _, h => ⟨h, rfl⟩
 | n + 1, i, s, h => ⟨(WF.backL (h.step f (b, i, ())).1).1, (WF.backL (h.step f (b, i, ())).1).2.trans (h.step f (b, i, ())).2⟩
def nIns (f : Fn) (b : Int) : Int := (ln qah (bIns (blk f b)) : Int)
def backS (a : Den qag) (s : SetD) (b i : Int) : SetD := backL a.1 b (nIns a.1 b - i + 1).toNat (nIns a.1 b) s
def preB (a : Den qag) (s : SetD) (b i : Int) : Prop := qfr a.1 ∧ WF s ∧ (0 ≤ b ∧ b < (ln qad (qfn a.1) : Int)) ∧ -1 ≤ i ∧ i ≤ nIns a.1 b
theorem back_reads {Q : AV → Heap → Prop} (rs : List (Den I)) (hr : room 8 (ln I rs)) (b index i : Int) (a : Den qag) (hd : Hd) : ∀ k, k ≤ ln I rs → ∀ s : SetD, WF s → Runs E_B7 (qbm b index a (IntKind.wrap .i64 (i - 1)) hd (addL s (rs.drop k))) Q → Runs E_B7 (qcb rs (ln I rs : Nat) k b index a i hd s) Q :=
 qes (fun s _ hn => .tree E_B7_ok (qdw _ _ _ _ _ _ _ _ _) (by
  rw [qcf] at hn
  simp only [sS, sL,  addL, List.foldl_nil] at hn ⊢
  exact hn))
  fun k hk ih s hs hn => .tree E_B7_ok (qdw _ _ _ _ _ _ _ _ _) (by
   rw [qbz hk] at hn
   have ih := ih (addS s (gd I rs k)) (hs.add _).1 hn
   simp only [sS, sL,  hk, wrapS hk (qdm hr)]
   exact ⟨hs, fun _ => ih⟩)
theorem back_writes {Q : AV → Heap → Prop} (rs : List (Den I)) (hr : room 8 (ln I rs)) (b index i : Int) (a : Den qag) (hd : Hd) (hsm : qfr a.1) : ∀ k, k ≤ ln I rs → ∀ s : SetD, WF s → Runs E_B7 (qbm b index a (IntKind.wrap .i64 (i - 1)) hd (addL (remL s (rs.drop k)) (readsF a.1 (b, i, ())))) Q → Runs E_B7 (qcc a b i rs (ln I rs : Nat) k b index a i hd s) Q :=
 qes (fun s hs hn => .tree E_B7_ok (qdx _ _ _ _ _ _ _ _ _ _ _ _) (by
  rw [qcf] at hn
  simp only [sS, sL,  remL, List.foldl_nil] at hn ⊢
  refine ⟨hsm, fun _ hk => ?_⟩
  exact back_reads _ hk.1 _ _ _ _ _ 0 (Nat.zero_le _) _ hs hn))
  fun k hk ih s hs hn => .tree E_B7_ok (qdx _ _ _ _ _ _ _ _ _ _ _ _) (by
   rw [qbz hk] at hn
   have ih := ih (remS s (gd I rs k)) (hs.rem _).1 hn
   simp only [sS, sL,  hk, wrapS hk (qdm hr)]
   exact ⟨hs, fun _ => ih⟩)
theorem back_loop {Q : AV → Heap → Prop} (a : Den qag) (hsm : qfr a.1) (b index : Int) (hi0 : -1 ≤ index) (hd : Hd) : ∀ n (i : Int) (s : SetD), (i - index + 1).toNat = n → index - 1 ≤ i → i ≤ 9223372036854775000 → WF s → Q (.tref 1 1 [] 0 []) [(0, ⟨(.pins [.g 1 1 hd]), 0, [], false, none⟩), (1, ⟨(.arr 1 40 qaa ([backL a.1 b n i s] : List (Den qaa))), 1, [], false, none⟩)] → Runs E_B7 (qbm b index a i hd s) Q
 | 0, i, s, hn, h0, h1, hs, hq => .tree E_B7_ok (qfa _ _ _ _ _ _) (by
  refine qap (fun h => absurd (of_decide_eq_true h) (by omega)) fun _ => ?_
  exact hq)
 | n + 1, i, s, hn, h0, h1, hs, hq => .tree E_B7_ok (qfa _ _ _ _ _ _) (by
  refine qap (fun _ => ⟨hsm, fun _ hk => ?_⟩) fun h => absurd (of_decide_eq_false h) (by omega)
  have ih := back_loop a hsm b index hi0 hd n (i - 1) (stepF a.1 (b, i, ()) s) (by omega) (by omega) (by omega) (hs.step _ _).1 hq
  have hw : IntKind.wrap .i64 (i - 1) = i - 1 := wrap64 _ (by omega) (by omega)
  refine back_writes _ hk.1 _ _ _ _ _ hsm 0 (Nat.zero_le _) _ hs ?_
  rw [hw]
  exact ih)
def qge : ConIO := ⟨[.c (.cap qag), .ref 1 40 qaa, .c (.d I), .c (.d I)], fun x => preB x.1 x.2.1 x.2.2.1 x.2.2.2.1, fun x => .tref 1 1 [] 0 [], fun x => [(1, ⟨.arr 1 40 qaa [backS x.1 x.2.1 x.2.2.1 x.2.2.2.1], 1, [], false, none⟩)]⟩
theorem m_liveness_analysis_back (a : Den qag) (live : Den qaa) (b : Int) (index : Int) (hd1 : Hd) (h_a : okD qag a) (h_live : okD qaa live) (h_b : okD I b) (h_index : okD I index) (hp : preB a live b index) : Runs E_B7 (startH E_B7 qax [(.rtp qag a), (.tref 1 1 [] (0 : Nat) []), (vi b), (vi index)] [.g 1 1 hd1] [(1, ⟨(.arr 1 40 qaa ([live] : List (Den qaa))), 1, [], false, none⟩)]) (fun r_ h_ => r_ = .tref 1 1 [] 0 [] ∧ h_ = (0, ⟨(.pins [.g 1 1 hd1]), 0, [], false, none⟩) :: [(1, ⟨.arr 1 40 qaa [backS a live b index], 1, [], false, none⟩)]) := .tree E_B7_ok (liveness_analysis_back_t a live b index hd1) (by
 obtain ⟨hsm, hs, hb, h0, h1⟩ := hp
 refine ⟨hb, fun _ => ?_⟩
 have hbn : b.toNat < ln qad (qfn a.1) := by omega
 have hl := qdm ((okB_of h_a.1).2 _ hbn).2.1.1
 have e : nIns a.1 b = (ln qah (gd qad a.1.2.2.2.2.1 b.toNat).2.1 : Int) := rfl
 rw [← e]
 have hN : nIns a.1 b ≤ 9223372036854775000 := by
  have h2 : ln qah (gd qad a.1.2.2.2.2.1 b.toNat).2.1 * 80 ≤ roomB := ((okB_of h_a.1).2 _ hbn).2.1.1.1
  rw [e]
  simp only [roomB] at h2
  omega
 exact back_loop a hsm b index h0 hd1 _ _ live rfl (by omega) hN hs ⟨rfl, rfl⟩)
theorem c_liveness_analysis_back : qbg E_B7 qax [1] qge.spec := spec_ofIO fun x l hx hp hl => by
 obtain ⟨hd1, rfl⟩ := pins1 hl
 exact ⟨rfl, m_liveness_analysis_back x.1 x.2.1 x.2.2.1 x.2.2.2.1 hd1 hx.1 hx.2.1 hx.2.2.1 hx.2.2.2.1 hp⟩
def L_B7 : List (FuncId × FSpec) := [] ++ L_B6
theorem L_B7_ok : ∀ x ∈ L_B7, qat (ctx []) x.1 x.2 := L_B6_ok
def LI_B7 : List IoT := [(qax, [1], qge.spec)] ++ LI_B6
theorem LI_B7_ok : ∀ x ∈ LI_B7, qbg (ctx []) x.1 x.2.1 x.2.2 := by
 unfold LI_B7
 simp only [List.cons_append, List.nil_append, List.forall_mem_cons]
 exact ⟨c_liveness_analysis_back, LI_B6_ok⟩
end Burn.M24
namespace Burn.M24
open Go Go.BE Go.Proofs
set_option maxRecDepth 100000
set_option linter.unusedVariables false
set_option linter.unusedSimpArgs false
open Burn.Cfg
open Burn.Bit
noncomputable abbrev E_B8 : Ctx := ctx L_B7 LI_B7
theorem E_B8_ok : EOK E_B8 := qcz L_B7_ok LI_B7_ok
def cuts_B8 : CutL := [([(172, 2000017)], 284, 0, [0, 1, 15, 16, 17], [], [[2, 5]])]
def rets_B8 : FuncId → List (Option Fx)
 | _ => []
def H_B8 : Hints := { cut := cutOf cuts_B8, ret := rets_B8 }
noncomputable def qbh (t1 : Den qag) (t15 : List (Den qaf)) (t16 : Int) (t17 : Int) (RR : RgL) (a : Den qag) (live_0 : Den qaa) : Cfg := hcfgx E_B8 f_liveness_analysis_succs_cl1 0 [(0, (.yld 0)), (1, (.rop [(.rtp qag t1)] 0)), (15, (.tv (.sl 32 qaf) t15)), (16, (vi t16)), (17, (vi t17))] [(0, ⟨(.obj (.loop RR .ready none)), 0, [], false, none⟩), (1, ⟨(.cells [(.tref 3 3 [] (0 : Nat) [])]), 1, [], false, none⟩), (2, ⟨(.obj .defd), 2, [], false, none⟩), (3, ⟨(.arr 1 40 qaa ([live_0] : List (Den qaa))), 3, [], false, none⟩)] 4 [(cfrr E_B8 qbl 0 [(2, (.rop [(.rtp qag a)] 0)), (5, (.ref 1 0))] 0 RR).wx none [(some 2, RR)]]
theorem liveness_analysis_out_t (a : Den qag) (b : Int) : run E_B8 H_B8 qbl 3000 (start E_B8 qbl [(.rtp qag a), (vi b)]) = (.chk (0 ≤ z ((ln I a.1.2.2.2.1) : Int) ∧ z ((ln I a.1.2.2.2.1) : Int) ≤ 65536) (.know True (.rg fun R1 => (.chk (0 ≤ b ∧ b < (ln qad a.1.2.2.2.2.1)) (hd (qbh a ((gd qad a.1.2.2.2.2.1 b.toNat).2.2.1.2.2.2.1) ((ln qaf ((gd qad a.1.2.2.2.2.1 b.toNat).2.2.1.2.2.2.1)) : Int) (0 : Int) R1 a (newS ((ln I a.1.2.2.2.1) : Int)))))))) := by kernel_rfl
theorem qeb (t1 : Den qag) (t15 : List (Den qaf)) (t16 : Int) (t17 : Int) (RR : RgL) (a : Den qag) (live_0 : Den qaa) : run E_B8 H_B8 qbl 3000 (qbh t1 t15 t16 t17 RR a live_0) = (cond (decide (t17 < t16)) (.chk (0 ≤ t17 ∧ t17 < (ln qaf t15)) (cond (decide ((z ((gd qaf t15 t17.toNat).1)) ≥ (0 : Int))) (cond (decide ((z ((gd qaf t15 t17.toNat).1)) < ((ln qad t1.1.2.2.2.2.1) : Int))) (.chk (RR = RR) (.chk (0 ≤ (z ((gd qaf t15 t17.toNat).1)) ∧ (z ((gd qaf t15 t17.toNat).1)) < (ln (.ptr qaa) a.2.1)) (.chk (WF live_0 ∧ wfP (gd (.ptr qaa) a.2.1 (((z ((gd qaf t15 t17.toNat).1))).toNat)) ∧ z live_0.2.1 = z (oG qaa (gd (.ptr qaa) a.2.1 (((z ((gd qaf t15 t17.toNat).1))).toNat))).2.1) (.know True (hd (qbh t1 t15 t16 (IntKind.wrap .i64 (t17 + (1 : Int))) RR a (unionS live_0 (gd (.ptr qaa) a.2.1 (((z ((gd qaf t15 t17.toNat).1))).toNat))))))))) (hd (qbh t1 t15 t16 (IntKind.wrap .i64 (t17 + (1 : Int))) RR a live_0))) (hd (qbh t1 t15 t16 (IntKind.wrap .i64 (t17 + (1 : Int))) RR a live_0)))) (rt (.tref 0 0 [] (0 : Nat) []) [(0, ⟨(.arr 1 40 qaa ([live_0] : List (Den qaa))), 0, [], false, none⟩)])) := by kernel_rfl
abbrev AnD := Den qag
abbrev nR (f : Fn) : Nat := ln I f.2.2.2.1
structure WA (a : AnD) : Prop where
 n : nR a.1 ≤ 65536
 len : ln (.ptr qaa) a.2.1 = ln qad (qfn a.1)
 ok : ∀ i, i < ln qad (qfn a.1) → ∃ y, gd (.ptr qaa) a.2.1 i = some y ∧ WF y ∧ z y.2.1 = (nR a.1 : Int)
def inB (f : Fn) (e : Den qaf) : Bool := decide (z e.1 ≥ 0) && decide (z e.1 < (ln qad (qfn f) : Int))
def outT (a : AnD) (s : SetD) (e : Den qaf) : SetD := cond (inB a.1 e) (unionS s (gd (.ptr qaa) a.2.1 (z e.1).toNat)) s
def outL (a : AnD) (s : SetD) (l : List (Den qaf)) : SetD := List.foldl (outT a) s l
def outS (a : AnD) (b : Int) : SetD := outL a (newS (nR a.1 : Int)) (tSuc (blk a.1 b))
theorem wf_new {n : Nat} (h : n ≤ 65536) : WF (newS (n : Int)) := by
 refine ⟨rfl, Int.natCast_nonneg _, ?_, ?_⟩
 ·show (n : Int) ≤ 65536
  omega
 ·have := okW_new n
  show OkW (Int.toNat (n : Int)) (List.replicate ((Int.toNat (n : Int) + 63) / 64) 0)
  rw [Int.toNat_natCast]
  exact this
theorem WF.union {s y : SetD} (h : WF s) (hy : WF y) (hn : z s.2.1 = z y.2.1) : WF (unionS s (some y)) ∧ (unionS s (some y)).2.1 = s.2.1 := by
 refine ⟨⟨h.made, h.lo, h.hi, ?_⟩, rfl⟩
 have h2 := hy.ok
 rw [← hn] at h2
 exact okW_or h.ok h2
theorem WA.out {a : AnD} (h : WA a) {s : SetD} (hs : WF s ∧ z s.2.1 = (nR a.1 : Int)) (e : Den qaf) : WF (outT a s e) ∧ z (outT a s e).2.1 = (nR a.1 : Int) := by
 unfold outT
 cases hi : inB a.1 e with
 | false => exact hs
 | true =>
  unfold inB at hi
  simp only [Bool.and_eq_true, decide_eq_true_eq] at hi
  obtain ⟨y, e1, e2, e3⟩ := h.ok (z e.1).toNat (by omega)
  rw [e1]
  have := hs.1.union e2 (hs.2.trans e3.symm)
  exact ⟨this.1, hs.2⟩
theorem WA.outL {a : AnD} (h : WA a) : ∀ {l : List (Den qaf)} {s : SetD}, (WF s ∧ z s.2.1 = (nR a.1 : Int)) → WF (outL a s l) ∧ z (Burn.M24.outL a s l).2.1 = (nR a.1 : Int)
 | [], _, hs => hs
 | e :: l, s, hs => h.outL (l := l) (h.out hs e)
theorem WA.outS {a : AnD} (h : WA a) (b : Int) : WF (outS a b) ∧ z (Burn.M24.outS a b).2.1 = (nR a.1 : Int) := h.outL ⟨wf_new h.n, rfl⟩
theorem out_loop (a : AnD) (ha : WA a) (es : List (Den qaf)) (hr : room 32 (ln qaf es)) (R : RgL) : ∀ k, k ≤ ln qaf es → ∀ s : SetD, (WF s ∧ z s.2.1 = (nR a.1 : Int)) → Runs E_B8 (qbh a es (ln qaf es : Nat) k R a s) (fun r_ h_ => r_ = (.tref 0 0 [] (0 : Nat) []) ∧ h_ = [(0, ⟨(.arr 1 40 qaa ([outL a s (es.drop k)] : List (Den qaa))), 0, [], false, none⟩)]) :=
 qes (fun s _ => .tree E_B8_ok (qeb _ _ _ _ _ _ _) (by
  rw [qcf]
  simp only [sS, sL,  outL, List.foldl_nil]))
  fun k hk ih s hs => .tree E_B8_ok (qeb _ _ _ _ _ _ _) (by
   rw [qbz hk]
   have ih := ih (outT a s (gd qaf es k)) (ha.out hs _)
   have e0 : outL a s (gd qaf es k :: es.drop (k + 1)) = outL a (outT a s (gd qaf es k)) (es.drop (k + 1)) := rfl
   rw [e0]
   refine qap (fun _ => ⟨⟨Int.natCast_nonneg _, Int.ofNat_lt.2 hk⟩, fun _ => ?_⟩) fun h => absurd (Int.ofNat_lt.2 hk) (of_decide_eq_false h)
   rw [Int.toNat_natCast, wrapS hk (qdm hr)]
   refine qap (fun h1 => qap (fun h2 => ?_) fun h2 => ?_) fun h1 => ?_
   ·have hi : inB a.1 (gd qaf es k) = true := by unfold inB; rw [h1, h2]; rfl
    have h1 := of_decide_eq_true h1
    have h2 : z (gd qaf es k).1 < (ln qad (qfn a.1) : Int) := of_decide_eq_true h2
    have eT : outT a s (gd qaf es k) = unionS s (gd (.ptr qaa) a.2.1 (z (gd qaf es k).1).toNat) := by unfold outT; rw [hi]; rfl
    rw [eT] at ih ⊢
    obtain ⟨y, e1, e2, e3⟩ := ha.ok (z (gd qaf es k).1).toNat (by omega)
    refine ⟨rfl, fun _ => ⟨⟨h1, by rw [ha.len]; exact h2⟩, fun _ => ⟨⟨hs.1, ⟨y, e1, e2⟩, ?_⟩, fun _ _ => ?_⟩⟩⟩
    ·rw [e1]
     exact hs.2.trans e3.symm
    ·exact ih
   ·have hi : inB a.1 (gd qaf es k) = false := by unfold inB; rw [h2, Bool.and_false]
    have eT : outT a s (gd qaf es k) = s := by unfold outT; rw [hi]; rfl
    rw [eT] at ih ⊢
    exact ih
   ·have hi : inB a.1 (gd qaf es k) = false := by unfold inB; rw [h1, Bool.false_and]
    have eT : outT a s (gd qaf es k) = s := by unfold outT; rw [hi]; rfl
    rw [eT] at ih ⊢
    exact ih)
def k_liveness_analysis_out : Con := ⟨[.cap qag, .d I], fun x => WA x.1 ∧ 0 ≤ z x.2.1 ∧ z x.2.1 < (ln qad (qfn x.1.1) : Int), fun _ => .tref 0 0 [] 0 [], fun x => [(0, ⟨.arr 1 40 qaa [outS x.1 x.2.1], 0, [], false, none⟩)]⟩
theorem m_liveness_analysis_out (a : Den qag) (b : Int) (h_a : okD qag a) (h_b : okD I b) (hp : WA a ∧ 0 ≤ z b ∧ z b < (ln qad (qfn a.1) : Int)) : Runs E_B8 (start E_B8 qbl [(.rtp qag a), (vi b)]) (fun r_ h_ => r_ = (.tref 0 0 [] (0 : Nat) []) ∧ h_ = [(0, ⟨(.arr 1 40 qaa ([(outS a b)] : List (Den qaa))), 0, [], false, none⟩)]) := .tree E_B8_ok (liveness_analysis_out_t a b) (by
 obtain ⟨ha, h0, h1⟩ := hp
 have hn := ha.n
 refine ⟨⟨Int.natCast_nonneg _, by show (ln I a.1.2.2.2.1 : Int) ≤ 65536; have : ln I a.1.2.2.2.1 ≤ 65536 := hn; omega⟩, fun _ _ R => ⟨⟨h0, h1⟩, fun _ => ?_⟩⟩
 have h0' : 0 ≤ b := h0
 have h1' : b < (ln qad (qfn a.1) : Int) := h1
 have hbn : b.toNat < ln qad (qfn a.1) := by omega
 exact out_loop a ha _ (okB_suc (okB_of h_a.1) hbn).1 R 0 (Nat.zero_le _) _ ⟨wf_new hn, rfl⟩)
theorem c_liveness_analysis_out : qat E_B8 qbl k_liveness_analysis_out.spec := qcj fun x hx hp => ⟨rfl, m_liveness_analysis_out x.1 x.2.1 hx.1 hx.2.1 hp⟩
def L_B8 : List (FuncId × FSpec) := [(qbl, k_liveness_analysis_out.spec)] ++ L_B7
theorem L_B8_ok : ∀ x ∈ L_B8, qat (ctx []) x.1 x.2 := by
 unfold L_B8
 simp only [List.cons_append, List.nil_append, List.forall_mem_cons]
 exact ⟨c_liveness_analysis_out, L_B7_ok⟩
def LI_B8 : List IoT := [] ++ LI_B7
theorem LI_B8_ok : ∀ x ∈ LI_B8, qbg (ctx []) x.1 x.2.1 x.2.2 := by
 unfold LI_B8
 simp only [List.cons_append, List.nil_append, List.forall_mem_cons]
 exact LI_B7_ok
end Burn.M24
namespace Burn.M24
open Go Go.BE Go.Proofs
set_option maxRecDepth 100000
set_option linter.unusedVariables false
set_option linter.unusedSimpArgs false
open Burn.Cfg
open Burn.Bit
noncomputable abbrev E_B9 : Ctx := ctx L_B8 LI_B8
theorem E_B9_ok : EOK E_B9 := qcz L_B8_ok LI_B8_ok
def cuts_B9 : CutL := [([], 111, 0, [1, 3, 11, 12], [(.c 3 5, .own 8 (.ptr qaa) 2)], []),
 ([], 111, 2, [1, 3, 4], [], []),
 ([], 111, 4, [1, 3, 4, 5], [], []),
 ([(170, 322), (111, 2381)], 234, 0, [0, 1, 2, 7, 33, 34], [], [[], [1, 3, 4, 5]])]
def rets_B9 : FuncId → List (Option Fx)
 | 111 => [some (.dat (.ptr qag))]
 | _ => []
def H_B9 : Hints := { cut := cutOf cuts_B9, ret := rets_B9 }
noncomputable def qec (f : Den qai) (t11 : Int) (t12 : Int) (a_0 : ByteArray) (a_1 : List (Den I)) (a_2 : Int) (a_3 : List (Den I)) (a_4 : List (Den qad)) (a_5 : List (Den (.ptr qaa))) : Cfg := hcfg E_B9 qbb 0 [(1, (.rtp qai f)), (3, (.ref 0 0)), (11, (vi t11)), (12, (vi t12))] [(0, ⟨(.cells [(vs a_0), (.tv (.sl 8 I) a_1), (vi a_2), (.tv (.sl 8 I) a_3), (.tv (.sl 136 qad) a_4), (.osl 1 1 [] none)]), 0, [], false, none⟩), (1, ⟨(.arr 2 8 (.ptr qaa) a_5), 1, [], false, none⟩)] 2
noncomputable def qcp (f : Den qai) (changed : Bool) (a_0 : ByteArray) (a_1 : List (Den I)) (a_2 : Int) (a_3 : List (Den I)) (a_4 : List (Den qad)) (a_5 : List (Den (.ptr qaa))) : Cfg := hcfg E_B9 qbb 2 [(1, (.rtp qai f)), (3, (.ref 0 0)), (4, (vb changed))] [(0, ⟨(.cells [(vs a_0), (.tv (.sl 8 I) a_1), (vi a_2), (.tv (.sl 8 I) a_3), (.tv (.sl 136 qad) a_4), (.osl 1 1 [] none)]), 0, [], false, none⟩), (1, ⟨(.arr 2 8 (.ptr qaa) a_5), 1, [], false, none⟩)] 2
noncomputable def qbi (f : Den qai) (changed : Bool) (b : Int) (a_0 : ByteArray) (a_1 : List (Den I)) (a_2 : Int) (a_3 : List (Den I)) (a_4 : List (Den qad)) (a_5 : List (Den (.ptr qaa))) : Cfg := hcfg E_B9 qbb 4 [(1, (.rtp qai f)), (3, (.ref 0 0)), (4, (vb changed)), (5, (vi b))] [(0, ⟨(.cells [(vs a_0), (.tv (.sl 8 I) a_1), (vi a_2), (.tv (.sl 8 I) a_3), (.tv (.sl 136 qad) a_4), (.osl 1 1 [] none)]), 0, [], false, none⟩), (1, ⟨(.arr 2 8 (.ptr qaa) a_5), 1, [], false, none⟩)] 2
noncomputable def qbq (s_k : Nat) (changed : Bool) (t33 : Int) (t34 : Int) (f : Den qai) (changed1 : Bool) (b : Int) (r0 : List (Den (.ptr qaa))) (o : Den qaa) (a_0 : ByteArray) (a_1 : List (Den I)) (a_2 : Int) (a_3 : List (Den I)) (a_4 : List (Den qad)) : Cfg := hcfgx E_B9 f_bitset_Set_combine 0 [(0, (.optr 0 0 [(s_k, [])])), (1, (.tref 1 1 [] (0 : Nat) [])), (2, (.fn qbn [])), (7, (vb changed)), (33, (vi t33)), (34, (vi t34))] [(0, ⟨(.arr 2 8 (.ptr qaa) r0), 0, [], false, none⟩), (1, ⟨(.arr 1 40 qaa ([o] : List (Den qaa))), 1, [], false, none⟩), (2, ⟨(.cells [(vs a_0), (.tv (.sl 8 I) a_1), (vi a_2), (.tv (.sl 8 I) a_3), (.tv (.sl 136 qad) a_4), (.osl 0 0 [] none)]), 2, [], false, none⟩)] 3 [cfr E_B9 qbx 0 [], cfr E_B9 qbb 7 [(1, (.rtp qai f)), (3, (.ref 2 0)), (4, (vb changed1)), (5, (vi b))]]
theorem liveness_analyze_t (f : Den qai) : run E_B9 H_B9 qbb 3000 (start E_B9 qbb [(.tv qai f)]) = (hd (qec f ((ln qad f.2.2.2.2.1) : Int) (0 : Int) (tOf f.1) f.2.1 (z f.2.2.1) f.2.2.2.1 f.2.2.2.2.1 ([] : List (Den (.ptr qaa))))) := by kernel_rfl
theorem liveness_analyze_L0_t (f : Den qai) (t11 : Int) (t12 : Int) (a_0 : ByteArray) (a_1 : List (Den I)) (a_2 : Int) (a_3 : List (Den I)) (a_4 : List (Den qad)) (a_5 : List (Den (.ptr qaa))) : run E_B9 H_B9 qbb 3000 (qec f t11 t12 a_0 a_1 a_2 a_3 a_4 a_5) = (cond (decide (t12 < t11)) (.chk (0 ≤ z ((ln I f.2.2.2.1) : Int) ∧ z ((ln I f.2.2.2.1) : Int) ≤ 65536) (.chk (((ln (.ptr qaa) a_5) + (1 : Nat)) * 8 ≤ roomB) (.know True (hd (qec f t11 (IntKind.wrap .i64 (t12 + (1 : Int))) a_0 a_1 a_2 a_3 a_4 (ap (.ptr qaa) a_5 ([(some (newS ((ln I f.2.2.2.1) : Int)))] : List (Den (.ptr qaa))))))))) (hd (qcp f true a_0 a_1 a_2 a_3 a_4 a_5))) := by kernel_rfl
theorem liveness_analyze_L2_t (f : Den qai) (changed : Bool) (a_0 : ByteArray) (a_1 : List (Den I)) (a_2 : Int) (a_3 : List (Den I)) (a_4 : List (Den qad)) (a_5 : List (Den (.ptr qaa))) : run E_B9 H_B9 qbb 3000 (qcp f changed a_0 a_1 a_2 a_3 a_4 a_5) = (cond changed (hd (qbi f false (IntKind.wrap .i64 (((ln qad f.2.2.2.2.1) : Int) - (1 : Int))) a_0 a_1 a_2 a_3 a_4 a_5)) (rt (.tv (.ptr qag) (some ((a_0, a_1, a_2, a_3, a_4, ()), a_5, ()))) [])) := by kernel_rfl
theorem liveness_analyze_L4_t (f : Den qai) (changed : Bool) (b : Int) (a_0 : ByteArray) (a_1 : List (Den I)) (a_2 : Int) (a_3 : List (Den I)) (a_4 : List (Den qad)) (a_5 : List (Den (.ptr qaa))) : run E_B9 H_B9 qbb 3000 (qbi f changed b a_0 a_1 a_2 a_3 a_4 a_5) = (cond (decide (b ≥ (0 : Int))) (.chk (0 ≤ b ∧ b < (ln (.ptr qaa) a_5)) (.chk (b.toNat < (ln (.ptr qaa) a_5)) (.chk (WA ((a_0, a_1, a_2, a_3, a_4, ()), a_5, ()) ∧ 0 ≤ z b ∧ z b < (ln qad (qfn ((a_0, a_1, a_2, a_3, a_4, ()), a_5, ()).1) : Int)) (.chk (preB ((a_0, a_1, a_2, a_3, a_4, ()), a_5, ()) (outS ((a_0, a_1, a_2, a_3, a_4, ()), a_5, ()) b) b (-1 : Int)) (.know True (.know True (.chk (b.toNat < (ln (.ptr qaa) a_5)) (.chk (True) (cond (!(qer (gd (.ptr qaa) a_5 b.toNat))) (.know True (hd (qbi f changed (IntKind.wrap .i64 (b - (1 : Int))) a_0 a_1 a_2 a_3 a_4 a_5))) (.chk (True) (cond (!(qer (some (backS ((a_0, a_1, a_2, a_3, a_4, ()), a_5, ()) (outS ((a_0, a_1, a_2, a_3, a_4, ()), a_5, ()) b) b (-1 : Int))))) (.know True (.know True (hd (qbi f changed (IntKind.wrap .i64 (b - (1 : Int))) a_0 a_1 a_2 a_3 a_4 a_5)))) (.chk (b.toNat < (ln (.ptr qaa) a_5)) (.chk ((0 : Nat) < (ln qaa (oL qaa (gd (.ptr qaa) a_5 b.toNat)))) (.chk (b.toNat < (ln (.ptr qaa) a_5)) (.chk (b.toNat < (ln (.ptr qaa) a_5)) (.chk ((0 : Nat) < (ln qaa (oL qaa (gd (.ptr qaa) a_5 b.toNat)))) (.chk ((0 : Nat) < (1 : Nat)) (.know True (.know True (cond ((z ((gd qaa (oL qaa (gd (.ptr qaa) a_5 b.toNat)) (0 : Nat)).2.1)) != (z ((backS ((a_0, a_1, a_2, a_3, a_4, ()), a_5, ()) (outS ((a_0, a_1, a_2, a_3, a_4, ()), a_5, ()) b) b (-1 : Int)).2.1))) (hd (qbi f changed (IntKind.wrap .i64 (b - (1 : Int))) a_0 a_1 a_2 a_3 a_4 a_5)) (.chk (b.toNat < (ln (.ptr qaa) a_5)) (.chk ((0 : Nat) < (ln qaa (oL qaa (gd (.ptr qaa) a_5 b.toNat)))) (.chk (b.toNat < (ln (.ptr qaa) a_5)) (.chk (b.toNat < (ln (.ptr qaa) a_5)) (.chk ((0 : Nat) < (ln qaa (oL qaa (gd (.ptr qaa) a_5 b.toNat)))) (.chk (b.toNat < (ln (.ptr qaa) a_5)) (.chk ((0 : Nat) < (ln qaa (oL qaa (gd (.ptr qaa) a_5 b.toNat)))) (hd (qbq b.toNat false ((ln (.int .u64) ((gd qaa (oL qaa (gd (.ptr qaa) a_5 b.toNat)) (0 : Nat)).2.2.1)) : Int) (0 : Int) f changed b a_5 (backS ((a_0, a_1, a_2, a_3, a_4, ()), a_5, ()) (outS ((a_0, a_1, a_2, a_3, a_4, ()), a_5, ()) b) b (-1 : Int)) a_0 a_1 a_2 a_3 a_4))))))))))))))))))))))))))))) (hd (qcp f changed a_0 a_1 a_2 a_3 a_4 a_5))) := by kernel_rfl
theorem qei (s_k : Nat) (changed : Bool) (t33 : Int) (t34 : Int) (f : Den qai) (changed1 : Bool) (b : Int) (r0 : List (Den (.ptr qaa))) (o : Den qaa) (a_0 : ByteArray) (a_1 : List (Den I)) (a_2 : Int) (a_3 : List (Den I)) (a_4 : List (Den qad)) : run E_B9 H_B9 qbb 3000 (qbq s_k changed t33 t34 f changed1 b r0 o a_0 a_1 a_2 a_3 a_4) = (cond (decide (t34 < t33)) (.chk (s_k < (ln (.ptr qaa) r0)) (.chk ((0 : Nat) < (ln qaa (oL qaa (gd (.ptr qaa) r0 s_k)))) (.chk (s_k < (ln (.ptr qaa) r0)) (.chk (s_k < (ln (.ptr qaa) r0)) (.chk ((0 : Nat) < (ln qaa (oL qaa (gd (.ptr qaa) r0 s_k)))) (.chk (s_k < (ln (.ptr qaa) r0)) (.chk ((0 : Nat) < (ln qaa (oL qaa (gd (.ptr qaa) r0 s_k)))) (.chk (0 ≤ t34 ∧ t34 < (ln (.int .u64) ((gd qaa (oL qaa (gd (.ptr qaa) r0 s_k)) (0 : Nat)).2.2.1))) (.chk (s_k < (ln (.ptr qaa) r0)) (.chk ((0 : Nat) < (ln qaa (oL qaa (gd (.ptr qaa) r0 s_k)))) (.chk (t34.toNat < (ln (.int .u64) ((gd qaa (oL qaa (gd (.ptr qaa) r0 s_k)) (0 : Nat)).2.2.1))) (.chk ((0 : Nat) < (1 : Nat)) (.chk ((0 : Nat) < (1 : Nat)) (.chk (0 ≤ t34 ∧ t34 < (ln (.int .u64) o.2.2.1)) (.chk ((0 : Nat) < (1 : Nat)) (.chk (t34.toNat < (ln (.int .u64) o.2.2.1)) (.chk (True) (.know (okD (.int .u64) (orW (gd (.int .u64) ((gd qaa (oL qaa (gd (.ptr qaa) r0 s_k)) (0 : Nat)).2.2.1) t34.toNat) (gd (.int .u64) o.2.2.1 t34.toNat))) (cond changed (.chk (s_k < (ln (.ptr qaa) r0)) (.chk ((0 : Nat) < (ln qaa (oL qaa (gd (.ptr qaa) r0 s_k)))) (.chk (s_k < (ln (.ptr qaa) r0)) (.chk (s_k < (ln (.ptr qaa) r0)) (.chk ((0 : Nat) < (ln qaa (oL qaa (gd (.ptr qaa) r0 s_k)))) (.chk (s_k < (ln (.ptr qaa) r0)) (.chk ((0 : Nat) < (ln qaa (oL qaa (gd (.ptr qaa) r0 s_k)))) (.chk (0 ≤ t34 ∧ t34 < (ln (.int .u64) ((gd qaa (oL qaa (gd (.ptr qaa) r0 s_k)) (0 : Nat)).2.2.1))) (.chk (s_k < (ln (.ptr qaa) r0)) (.chk ((0 : Nat) < (ln qaa (oL qaa (gd (.ptr qaa) r0 s_k)))) (.chk (t34.toNat < (ln (.int .u64) ((gd qaa (oL qaa (gd (.ptr qaa) r0 s_k)) (0 : Nat)).2.2.1))) (hd (qbq s_k true t33 (IntKind.wrap .i64 (t34 + (1 : Int))) f changed1 b (st (.ptr qaa) r0 s_k (oH qaa (st qaa (oL qaa (gd (.ptr qaa) r0 s_k)) (0 : Nat) ((gd qaa (oL qaa (gd (.ptr qaa) r0 s_k)) (0 : Nat)).1, (gd qaa (oL qaa (gd (.ptr qaa) r0 s_k)) (0 : Nat)).2.1, (st (.int .u64) ((gd qaa (oL qaa (gd (.ptr qaa) r0 s_k)) (0 : Nat)).2.2.1) t34.toNat (orW (gd (.int .u64) ((gd qaa (oL qaa (gd (.ptr qaa) r0 s_k)) (0 : Nat)).2.2.1) t34.toNat) (gd (.int .u64) o.2.2.1 t34.toNat))), (gd qaa (oL qaa (gd (.ptr qaa) r0 s_k)) (0 : Nat)).2.2.2)))) o a_0 a_1 a_2 a_3 a_4))))))))))))) (.chk (s_k < (ln (.ptr qaa) r0)) (.chk ((0 : Nat) < (ln qaa (oL qaa (gd (.ptr qaa) r0 s_k)))) (.chk (s_k < (ln (.ptr qaa) r0)) (.chk (s_k < (ln (.ptr qaa) r0)) (.chk ((0 : Nat) < (ln qaa (oL qaa (gd (.ptr qaa) r0 s_k)))) (.chk (s_k < (ln (.ptr qaa) r0)) (.chk ((0 : Nat) < (ln qaa (oL qaa (gd (.ptr qaa) r0 s_k)))) (.chk (0 ≤ t34 ∧ t34 < (ln (.int .u64) ((gd qaa (oL qaa (gd (.ptr qaa) r0 s_k)) (0 : Nat)).2.2.1))) (.chk (s_k < (ln (.ptr qaa) r0)) (.chk ((0 : Nat) < (ln qaa (oL qaa (gd (.ptr qaa) r0 s_k)))) (.chk (t34.toNat < (ln (.int .u64) ((gd qaa (oL qaa (gd (.ptr qaa) r0 s_k)) (0 : Nat)).2.2.1))) (.chk (s_k < (ln (.ptr qaa) r0)) (.chk ((0 : Nat) < (ln qaa (oL qaa (gd (.ptr qaa) r0 s_k)))) (.chk (s_k < (ln (.ptr qaa) r0)) (.chk (s_k < (ln (.ptr qaa) r0)) (.chk ((0 : Nat) < (ln qaa (oL qaa (gd (.ptr qaa) r0 s_k)))) (.chk (s_k < (ln (.ptr qaa) r0)) (.chk ((0 : Nat) < (ln qaa (oL qaa (gd (.ptr qaa) r0 s_k)))) (.chk (0 ≤ t34 ∧ t34 < (ln (.int .u64) ((gd qaa (oL qaa (gd (.ptr qaa) r0 s_k)) (0 : Nat)).2.2.1))) (.chk (s_k < (ln (.ptr qaa) r0)) (.chk ((0 : Nat) < (ln qaa (oL qaa (gd (.ptr qaa) r0 s_k)))) (.chk (t34.toNat < (ln (.int .u64) ((gd qaa (oL qaa (gd (.ptr qaa) r0 s_k)) (0 : Nat)).2.2.1))) (hd (qbq s_k ((orW (gd (.int .u64) ((gd qaa (oL qaa (gd (.ptr qaa) r0 s_k)) (0 : Nat)).2.2.1) t34.toNat) (gd (.int .u64) o.2.2.1 t34.toNat)) != (iOf .u64 (gd (.int .u64) ((gd qaa (oL qaa (gd (.ptr qaa) r0 s_k)) (0 : Nat)).2.2.1) t34.toNat))) t33 (IntKind.wrap .i64 (t34 + (1 : Int))) f changed1 b (st (.ptr qaa) r0 s_k (oH qaa (st qaa (oL qaa (gd (.ptr qaa) r0 s_k)) (0 : Nat) ((gd qaa (oL qaa (gd (.ptr qaa) r0 s_k)) (0 : Nat)).1, (gd qaa (oL qaa (gd (.ptr qaa) r0 s_k)) (0 : Nat)).2.1, (st (.int .u64) ((gd qaa (oL qaa (gd (.ptr qaa) r0 s_k)) (0 : Nat)).2.2.1) t34.toNat (orW (gd (.int .u64) ((gd qaa (oL qaa (gd (.ptr qaa) r0 s_k)) (0 : Nat)).2.2.1) t34.toNat) (gd (.int .u64) o.2.2.1 t34.toNat))), (gd qaa (oL qaa (gd (.ptr qaa) r0 s_k)) (0 : Nat)).2.2.2)))) o a_0 a_1 a_2 a_3 a_4))))))))))))))))))))))))))))))))))))))))))) (cond changed (hd (qbi f true (IntKind.wrap .i64 (b - (1 : Int))) a_0 a_1 a_2 a_3 a_4 r0)) (hd (qbi f changed1 (IntKind.wrap .i64 (b - (1 : Int))) a_0 a_1 a_2 a_3 a_4 r0)))) := by kernel_rfl
abbrev Ins := List (Den (.ptr qaa))
def aOf (f : Fn) (ins : Ins) : AnD := (f, ins, ())
def sI (ins : Ins) (b : Nat) : SetD := oG qaa (gd (.ptr qaa) ins b)
def tB (f : Fn) (ins : Ins) (b : Nat) : SetD := backS (aOf f ins) (outS (aOf f ins) b) b (-1)
def updB (f : Fn) (ins : Ins) (b : Nat) : Ins := st (.ptr qaa) ins b (some (unionS (sI ins b) (some (tB f ins b))))
def chB (f : Fn) (ins : Ins) (b : Nat) : Bool := unionR (sI ins b) (some (tB f ins b))
def passF (f : Fn) : Nat → Ins → Bool → Ins × Bool
 | 0, ins, c => (ins, c)
 | n + 1, ins, c => passF f n (updB f ins n) (cond (chB f ins n) true c)
def nB (f : Fn) : Nat := ln qad (qfn f)
def fixA (f : Fn) : Nat → Ins → Ins
 | 0, ins => ins
 | k + 1, ins => cond (passF f (nB f) ins false).2 (fixA f k (passF f (nB f) ins false).1) (passF f (nB f) ins false).1
def ins0 (f : Fn) : Ins := List.replicate (nB f) (some (newS (nR f : Int)))
def anF (f : Fn) : Ins := fixA f (nB f * nR f + 1) (ins0 f)
def analyzeF (f : Fn) : Den (.ptr qag) := some (aOf f (anF f))
theorem WF.nat {s : SetD} (h : WF s) (r : Nat) : memS s (r : Int) = memW s.2.2.1 r := by
 unfold memS
 rw [decide_eq_true (Int.natCast_nonneg r), Bool.true_and, Int.toNat_natCast]
 by_cases hr : (r : Int) < z s.2.1
 ·rw [decide_eq_true hr, Bool.true_and]
 ·rw [decide_eq_false hr, Bool.false_and]
  exact (h.ok.top r (by omega)).symm
theorem mem_union {s y : SetD} (h : WF s) (hy : WF y) (hn : z s.2.1 = z y.2.1) (r : Nat) : memS (unionS s (some y)) (r : Int) = (memS s r || memS y r) := by
 have h2 := hy.ok
 rw [← hn] at h2
 rw [h.nat, hy.nat, (h.union hy hn).1.nat]
 exact memW_or h.ok h2 r
theorem union_t {s y : SetD} (h : WF s) (hy : WF y) (hn : z s.2.1 = z y.2.1) (hu : unionR s (some y) = true) : ∃ r : Nat, (r : Int) < z s.2.1 ∧ memS s r = false ∧ memS y r = true := by
 apply Classical.byContradiction
 intro hc
 have h2 := hy.ok
 rw [← hn] at h2
 refine absurd (memW_ext (okW_or h.ok h2) h.ok fun r hr => ?_) (of_decide_eq_true hu)
 rw [memW_or h.ok h2, ← h.nat, ← hy.nat]
 have hr' : (r : Int) < z s.2.1 := by omega
 cases h3 : memS s (r : Int) with
 | true => rfl
 | false =>
  cases h4 : memS y (r : Int) with
  | false => rfl
  | true => exact absurd ⟨r, hr', h3, h4⟩ hc
theorem wa_back {a : AnD} (h : WA a) (b i : Int) : WF (backS a (outS a b) b i) ∧ z (backS a (outS a b) b i).2.1 = (nR a.1 : Int) := by
 obtain ⟨h1, h2⟩ := h.outS b
 have h3 := WF.backL (f := a.1) (b := b) (n := (nIns a.1 b - i + 1).toNat) (i := nIns a.1 b) h1
 exact ⟨h3.1, (congrArg z h3.2).trans h2⟩
theorem tB_ok {f : Fn} {ins : Ins} (h : WA (aOf f ins)) (b : Nat) : WF (tB f ins b) ∧ z (tB f ins b).2.1 = (nR f : Int) := wa_back h b (-1)
theorem WA.set {f : Fn} {ins : Ins} (h : WA (aOf f ins)) {b : Nat} (hb : b < nB f) : gd (.ptr qaa) ins b = some (sI ins b) ∧ WF (sI ins b) ∧ z (sI ins b).2.1 = (nR f : Int) := by
 obtain ⟨y, h1, h2⟩ := h.ok b hb
 have h1 : gd (.ptr qaa) ins b = some y := h1
 unfold sI
 rw [h1]
 exact ⟨rfl, h2⟩
theorem WA.upd {f : Fn} {ins : Ins} (h : WA (aOf f ins)) {b : Nat} (hb : b < nB f) : WA (aOf f (updB f ins b)) := by
 refine ⟨h.n, ln_st.trans h.len, fun i hi => ?_⟩
 by_cases e : i = b
 ·subst e
  obtain ⟨_, h1, h2⟩ := h.set hb
  obtain ⟨h3, h4⟩ := tB_ok h i
  obtain ⟨h5, h6⟩ := h1.union h3 (h2.trans h4.symm)
  refine ⟨_, gd_st (by rw [show ln (.ptr qaa) ins = nB f from h.len]; exact hb), h5, ?_⟩
  exact (congrArg z h6).trans h2
 ·obtain ⟨y, h1, h2⟩ := h.ok i hi
  refine ⟨y, Eq.trans ?_ h1, h2⟩
  show (List.set ins b _).getD i _ = ins.getD i _
  rw [List.getD_eq_getElem?_getD, List.getD_eq_getElem?_getD, List.getElem?_set, if_neg (fun h => e h.symm)]
theorem upd_self {f : Fn} {ins : Ins} (h : WA (aOf f ins)) {b : Nat} (hb : b < nB f) : sI (updB f ins b) b = unionS (sI ins b) (some (tB f ins b)) := by
 unfold sI updB
 rw [gd_st (by rw [show ln (.ptr qaa) ins = nB f from h.len]; exact hb)]
 rfl
theorem upd_other {f : Fn} {ins : Ins} {b i : Nat} (e : i ≠ b) : sI (updB f ins b) i = sI ins i := by
 unfold sI updB
 refine congrArg _ ?_
 show (List.set ins b _).getD i _ = ins.getD i _
 rw [List.getD_eq_getElem?_getD, List.getD_eq_getElem?_getD, List.getElem?_set, if_neg (fun h => e h.symm)]
def mI (ins : Ins) (b r : Nat) : Bool := memS (sI ins b) (r : Int)
theorem upd_mem {f : Fn} {ins : Ins} (h : WA (aOf f ins)) {b : Nat} (hb : b < nB f) (i r : Nat) : mI (updB f ins b) i r = (mI ins i r || (decide (i = b) && memS (tB f ins b) (r : Int))) := by
 unfold mI
 by_cases e : i = b
 ·subst e
  obtain ⟨_, h1, h2⟩ := h.set hb
  obtain ⟨h3, h4⟩ := tB_ok h i
  rw [upd_self h hb, mem_union h1 h3 (h2.trans h4.symm), decide_eq_true rfl, Bool.true_and]
 ·rw [upd_other e, decide_eq_false e, Bool.false_and, Bool.or_false]
theorem upd_le {f : Fn} {ins : Ins} (h : WA (aOf f ins)) {b : Nat} (hb : b < nB f) {i r : Nat} (hm : mI ins i r = true) : mI (updB f ins b) i r = true := by
 rw [upd_mem h hb, hm, Bool.true_or]
theorem WA.pass {f : Fn} : ∀ {n : Nat} {ins : Ins} {c : Bool}, n ≤ nB f → WA (aOf f ins) → WA (aOf f (passF f n ins c).1)
 | 0, _, _, _, h => h
 | n + 1, _, _, hn, h => WA.pass (n := n) (by omega) (h.upd (by omega))
theorem pass_le {f : Fn} {i r : Nat} : ∀ {n : Nat} {ins : Ins} {c : Bool}, n ≤ nB f → WA (aOf f ins) → mI ins i r = true → mI (passF f n ins c).1 i r = true
 | 0, _, _, _, _, hm => hm
 | n + 1, _, _, hn, h, hm => pass_le (n := n) (by omega) (h.upd (by omega)) (upd_le h (by omega) hm)
theorem pass_ch {f : Fn} : ∀ {n : Nat} {ins : Ins} {c : Bool}, n ≤ nB f → WA (aOf f ins) → (passF f n ins c).2 = true → c = true ∨ ∃ b, b < nB f ∧ ∃ r, r < nR f ∧ mI ins b r = false ∧ mI (passF f n ins c).1 b r = true
 | 0, _, _, _, _, hc => .inl hc
 | n + 1, ins, c, hn, h, hc => by
  rcases pass_ch (n := n) (by omega) (h.upd (show n < nB f by omega)) hc with h1 | ⟨b, hb, r, hr, h1, h2⟩
  ·cases hch : chB f ins n with
   | false => rw [hch] at h1; exact .inl h1
   | true =>
    obtain ⟨_, w1, w2⟩ := h.set (show n < nB f by omega)
    obtain ⟨w3, w4⟩ := tB_ok h n
    obtain ⟨r, hr, m1, m2⟩ := union_t (y := tB f ins n) w1 w3 (w2.trans w4.symm) hch
    refine .inr ⟨n, by omega, r, ?_, m1, pass_le (n := n) (by omega) (h.upd (by omega)) ?_⟩
    ·rw [w2] at hr
     exact Int.ofNat_lt.1 hr
    ·rw [upd_mem h (by omega), decide_eq_true rfl, Bool.true_and, show memS (tB f ins n) (r : Int) = true from m2, Bool.or_true]
  ·refine .inr ⟨b, hb, r, hr, ?_, h2⟩
   cases h3 : mI ins b r with
   | false => rfl
   | true => exact absurd (h1.symm.trans (upd_le h (by omega) h3)) (by decide)
theorem wa0 {f : Fn} (h : nR f ≤ 65536) : WA (aOf f (ins0 f)) := by
 refine ⟨h, List.length_replicate, fun i hi => ⟨newS (nR f : Int), ?_, wf_new h, rfl⟩⟩
 show (List.replicate (nB f) (some (newS (nR f : Int)))).getD i _ = _
 rw [List.getD_eq_getElem?_getD, List.getElem?_replicate, if_pos (show i < nB f from hi)]
 rfl
def sumN (g : Nat → Nat) : Nat → Nat
 | 0 => 0
 | n + 1 => sumN g n + g n
theorem sumN_le {g h : Nat → Nat} : ∀ {n : Nat}, (∀ i, i < n → g i ≤ h i) → sumN g n ≤ sumN h n
 | 0, _ => Nat.le_refl _
 | n + 1, hl => Nat.add_le_add (sumN_le fun i hi => hl i (by omega)) (hl n (by omega))
theorem sumN_lt {g h : Nat → Nat} : ∀ {n : Nat}, (∀ i, i < n → g i ≤ h i) → ∀ {k}, k < n → g k < h k → sumN g n < sumN h n
 | n + 1, hl, k, hk, hs => by
  by_cases e : k = n
  ·subst e
   exact Nat.add_lt_add_of_le_of_lt (sumN_le fun i hi => hl i (by omega)) hs
  ·exact Nat.add_lt_add_of_lt_of_le (sumN_lt (fun i hi => hl i (by omega)) (k := k) (by omega) hs) (hl n (by omega))
theorem sumN_top {g : Nat → Nat} {c : Nat} : ∀ {n : Nat}, (∀ i, i < n → g i ≤ c) → sumN g n ≤ n * c
 | 0, _ => Nat.zero_le _
 | n + 1, hl => by
  have h1 := sumN_top (n := n) fun i hi => hl i (by omega)
  have h2 := hl n (by omega)
  rw [Nat.succ_mul]
  show sumN g n + g n ≤ _
  omega
def cnt2 (nb nr : Nat) (m : Nat → Nat → Bool) : Nat := sumN (fun b => sumN (fun r => (m b r).toNat) nr) nb
theorem toNat_le {a b : Bool} (h : a = true → b = true) : a.toNat ≤ b.toNat := by
 cases a with
 | false => exact Nat.zero_le _
 | true => rw [h rfl]; exact Nat.le_refl _
theorem cnt2_top (nb nr : Nat) (m : Nat → Nat → Bool) : cnt2 nb nr m ≤ nb * nr := sumN_top fun b _ => by
 have h := sumN_top (g := fun r => (m b r).toNat) (c := 1) (n := nr) fun _ _ => Bool.toNat_le _
 rw [Nat.mul_one] at h
 exact h
theorem cnt2_lt {nb nr : Nat} {m m' : Nat → Nat → Bool} (h : ∀ b r, m b r = true → m' b r = true) {b r : Nat} (hb : b < nb) (hr : r < nr) (h1 : m b r = false) (h2 : m' b r = true) : cnt2 nb nr m < cnt2 nb nr m' := by
 refine sumN_lt (fun b _ => sumN_le fun r _ => toNat_le (h b r)) hb (sumN_lt (fun r _ => toNat_le (h b r)) hr ?_)
 rw [h1, h2]
 exact Nat.lt_succ_self 0
theorem pass_cnt {f : Fn} {ins : Ins} (h : WA (aOf f ins)) (hc : (passF f (nB f) ins false).2 = true) : cnt2 (nB f) (nR f) (mI ins) < cnt2 (nB f) (nR f) (mI (passF f (nB f) ins false).1) := by
 rcases pass_ch (Nat.le_refl _) h hc with h1 | ⟨b, hb, r, hr, h1, h2⟩
 ·exact absurd h1 (by decide)
 ·exact cnt2_lt (fun b r => pass_le (Nat.le_refl _) h) hb hr h1 h2
theorem an_comb {Q : AV → Heap → Prop} (f : Fn) (c1 : Bool) (b : Int) (s o : SetD) (hs : WF s) (ho : WF o) (hn : z s.2.1 = z o.2.1) (k : Nat) (fin : Ins)
  (next : Runs E_B9 (qbi f (cond (unionR s (some o)) true c1) (IntKind.wrap .i64 (b - 1)) (tOf f.1) f.2.1 (z f.2.2.1) f.2.2.2.1 f.2.2.2.2.1 fin) Q) :
  ∀ i, i ≤ s.2.2.1.length → ∀ r0 : Ins, k < ln (.ptr qaa) r0 → gd (.ptr qaa) r0 k = some (s.1, s.2.1, stp s.2.2.1 o.2.2.1 i, s.2.2.2) → st (.ptr qaa) r0 k (some (unionS s (some o))) = fin →
   Runs E_B9 (qbq k (chgd s.2.2.1 o.2.2.1 i) (s.2.2.1.length : Int) (i : Int) f c1 b r0 o (tOf f.1) f.2.1 (z f.2.2.1) f.2.2.2.1 f.2.2.2.2.1) Q := by
 have hlen : s.2.2.1.length = o.2.2.1.length := by rw [hs.ok.len, ho.ok.len, hn]
 have hbig : s.2.2.1.length ≤ 2000 := by have := hs.ok.len; have := hs.hi; omega
 refine qes ?_ fun i hi ih => ?_
 ·intro r0 hk hg hf
  refine .tree E_B9_ok (qei _ _ _ _ _ _ _ _ _ _ _ _ _ _) ?_
  refine qap (fun h => absurd (of_decide_eq_true h) (Int.lt_irrefl _)) fun _ => ?_
  rw [stp_all] at hg
  have e : r0 = fin := by
   rw [← hf]
   have := st_gd (S := .ptr qaa) (l := r0) (i := k)
   rw [hg] at this
   exact this.symm
  subst e
  rw [chgd_all]
  refine qap (fun h => ?_) fun h => ?_
  ·have h : unionR s (some o) = true := h
   rw [h] at next
   exact next
  ·have h : unionR s (some o) = false := h
   rw [h] at next
   exact next
 ·intro r0 hk hg hf
  refine .tree E_B9_ok (qei _ _ _ _ _ _ _ _ _ _ _ _ _ _) ?_
  have hl : ln (.int .u64) (stp s.2.2.1 o.2.2.1 i) = s.2.2.1.length := stp_len _ _ _
  have hl2 : ln (.int .u64) o.2.2.1 = s.2.2.1.length := hlen.symm
  have hgw : gd (.int .u64) (stp s.2.2.1 o.2.2.1 i) i = s.2.2.1.getD i 0 := stp_get hi
  have hst : st (.int .u64) (stp s.2.2.1 o.2.2.1 i) i (orW (s.2.2.1.getD i 0) (gd (.int .u64) o.2.2.1 i)) = stp s.2.2.1 o.2.2.1 (i + 1) := stp_set hi
  have hw : IntKind.wrap .i64 ((i : Int) + 1) = ((i + 1 : Nat) : Int) := wrap64 _ (by omega) (by omega)
  have hc := chgd_succ s.2.2.1 o.2.2.1 i
  have e0 : ∀ v : SetD, gd qaa (oL qaa (some v)) 0 = v := fun _ => rfl
  have e1 : ∀ v : SetD, ln qaa (oL qaa (some v)) = 1 := fun _ => rfl
  have e2 : ∀ v w : SetD, oH qaa (st qaa (oL qaa (some v)) 0 w) = some w := fun _ _ => rfl
  simp only [hg, e0, e1, e2, Int.toNat_natCast, hl, hl2, hgw, hst, hw]
  refine qap (fun _ => ?_) fun h => absurd (Int.ofNat_lt.2 hi) (of_decide_eq_false h)
  have hr : 0 ≤ (i : Int) ∧ (i : Int) < (s.2.2.1.length : Int) := ⟨Int.natCast_nonneg _, Int.ofNat_lt.2 hi⟩
  repeat (refine ⟨by first | exact hk | exact Nat.zero_lt_one | exact hr | exact hi | exact trivial, fun _ => ?_⟩)
  intro _
  have ih := ih (st (.ptr qaa) r0 k (some (s.1, s.2.1, stp s.2.2.1 o.2.2.1 (i + 1), s.2.2.2))) (by rw [ln_st]; exact hk) (gd_st hk) (by rw [st_st]; exact hf)
  refine qap (fun h => ?_) fun h => ?_
  ·repeat (refine ⟨by first | exact hk | exact Nat.zero_lt_one | exact hr | exact hi | exact trivial, fun _ => ?_⟩)
   rw [h, Bool.true_or] at hc
   rw [hc] at ih
   exact ih
  ·repeat (refine ⟨by first | exact hk | exact Nat.zero_lt_one | exact hr | exact hi | exact trivial, fun _ => ?_⟩)
   rw [h, Bool.false_or] at hc
   rw [hc] at ih
   exact ih
theorem an_pass {Q : AV → Heap → Prop} (f : Fn) (hsm : qfr f) (hN : nB f ≤ 9223372036854775000) : ∀ n, n ≤ nB f → ∀ (b : Int) (c : Bool) (ins : Ins), b = (n : Int) - 1 → WA (aOf f ins) → Runs E_B9 (qcp f (passF f n ins c).2 (tOf f.1) f.2.1 (z f.2.2.1) f.2.2.2.1 f.2.2.2.2.1 (passF f n ins c).1) Q → Runs E_B9 (qbi f c b (tOf f.1) f.2.1 (z f.2.2.1) f.2.2.2.1 f.2.2.2.2.1 ins) Q
 | 0, _, b, c, ins, hb, hwa, hq => .tree E_B9_ok (liveness_analyze_L4_t _ _ _ _ _ _ _ _ _) (by
  refine qap (fun h => absurd (of_decide_eq_true h) (by omega)) fun _ => ?_
  exact hq)
 | n + 1, hn, b, c, ins, hb, hwa, hq => .tree E_B9_ok (liveness_analyze_L4_t _ _ _ _ _ _ _ _ _) (by
  have hb : b = (n : Int) := by omega
  subst hb
  obtain ⟨g1, g2, g3⟩ := hwa.set (show n < nB f by omega)
  obtain ⟨t1, t2⟩ := tB_ok hwa n
  have hl : ln (.ptr qaa) ins = nB f := hwa.len
  have hk : n < ln (.ptr qaa) ins := by omega
  have e0 : ∀ v : SetD, gd qaa (oL qaa (some v)) 0 = v := fun _ => rfl
  have e1 : ∀ v : SetD, ln qaa (oL qaa (some v)) = 1 := fun _ => rfl
  have hw : IntKind.wrap .i64 ((n : Int) - 1) = (n : Int) - 1 := wrap64 _ (by omega) (by omega)
  have hi : 0 ≤ (n : Int) ∧ (n : Int) < (ln (.ptr qaa) ins : Int) := ⟨Int.natCast_nonneg _, Int.ofNat_lt.2 hk⟩
  have hi2 : 0 ≤ (n : Int) ∧ (n : Int) < (nB f : Int) := ⟨Int.natCast_nonneg _, Int.ofNat_lt.2 hn⟩
  refine qap (fun _ => ?_) fun h => absurd (of_decide_eq_false h) (by omega)
  have v1 : (!(qer (some (sI ins n)))) = false := by rw [show qer (some (sI ins n)) = true from g2.made]; rfl
  have v2 : (!(qer (some (tB f ins n)))) = false := by rw [show qer (some (tB f ins n)) = true from t1.made]; rfl
  simp only [Int.toNat_natCast, g1, e0, e1]
  refine ⟨hi, fun _ => ⟨hk, fun _ => ⟨⟨hwa, hi2⟩, fun _ => ⟨⟨hsm, (hwa.outS n).1, hi2, by omega, ?_⟩, fun _ _ _ => ⟨hk, fun _ => ⟨trivial, fun _ => ?_⟩⟩⟩⟩⟩⟩
  ·unfold nIns
   omega
  refine qap (fun h => absurd (h.symm.trans v1) (by decide)) fun _ => ⟨trivial, fun _ => ?_⟩
  refine qap (fun h => absurd (h.symm.trans v2) (by decide)) fun _ => ?_
  repeat (refine ⟨by first | exact hk | exact Nat.zero_lt_one, fun _ => ?_⟩)
  intro _ _
  refine qap (fun h => absurd (g3.trans t2.symm) (bne_t h)) fun _ => ?_
  repeat (refine ⟨by first | exact hk | exact Nat.zero_lt_one, fun _ => ?_⟩)
  have ih := an_pass f hsm hN n (by omega) ((n : Int) - 1) _ _ rfl (hwa.upd (show n < nB f by omega)) hq
  have := an_comb (Q := Q) f c (n : Int) (sI ins n) (tB f ins n) g2 t1 (g3.trans t2.symm) n (updB f ins n) (by rw [hw]; exact ih) 0 (Nat.zero_le _) ins hk (by rw [stp_zero]; exact g1) rfl
  exact this)
theorem an_fix {Q : AV → Heap → Prop} (f : Fn) (hsm : qfr f) (hN : nB f ≤ 9223372036854775000) : ∀ m (ins : Ins), nB f * nR f < cnt2 (nB f) (nR f) (mI ins) + m → WA (aOf f ins) → Q (.tv (.ptr qag) (some (aOf f (fixA f m ins)))) [] → Runs E_B9 (qcp f true (tOf f.1) f.2.1 (z f.2.2.1) f.2.2.2.1 f.2.2.2.2.1 ins) Q
 | 0, ins, hm, hwa, hq => by
  have := cnt2_top (nB f) (nR f) (mI ins)
  omega
 | m + 1, ins, hm, hwa, hq => .tree E_B9_ok (liveness_analyze_L2_t _ _ _ _ _ _ _ _) (by
  have hw : IntKind.wrap .i64 ((nB f : Int) - 1) = (nB f : Int) - 1 := wrap64 _ (by omega) (by omega)
  have hx : Runs E_B9 (qcp f (passF f (nB f) ins false).2 (tOf f.1) f.2.1 (z f.2.2.1) f.2.2.2.1 f.2.2.2.2.1 (passF f (nB f) ins false).1) Q := by
   cases h : (passF f (nB f) ins false).2 with
   | true =>
    refine an_fix f hsm hN m _ ?_ (WA.pass (Nat.le_refl _) hwa) ?_
    ·have := pass_cnt hwa h
     omega
    ·have e : fixA f (m + 1) ins = fixA f m (passF f (nB f) ins false).1 := by
      show cond (passF f (nB f) ins false).2 _ _ = _
      rw [h]; rfl
     rw [e] at hq
     exact hq
   | false =>
    refine .tree E_B9_ok (liveness_analyze_L2_t _ _ _ _ _ _ _ _) ?_
    have e : fixA f (m + 1) ins = (passF f (nB f) ins false).1 := by
     show cond (passF f (nB f) ins false).2 _ _ = _
     rw [h]; rfl
    rw [e] at hq
    exact hq
  have := an_pass (Q := Q) f hsm hN (nB f) (Nat.le_refl _) ((nB f : Int) - 1) false ins rfl hwa hx
  rw [← hw] at this
  exact this)
theorem an_new {Q : AV → Heap → Prop} (f : Fn) (hsm : qfr f) (hr : nR f ≤ 65536) (hb : room 136 (nB f)) (hN : nB f ≤ 9223372036854775000) (hq : Q (.tv (.ptr qag) (analyzeF f)) []) : ∀ i, i ≤ nB f → Runs E_B9 (qec f (nB f : Nat) i (tOf f.1) f.2.1 (z f.2.2.1) f.2.2.2.1 f.2.2.2.2.1 (List.replicate i (some (newS (nR f : Int))))) Q :=
 qes (.tree E_B9_ok (liveness_analyze_L0_t _ _ _ _ _ _ _ _ _) (by
  refine qap (fun h => absurd (of_decide_eq_true h) (Int.lt_irrefl _)) fun _ => ?_
  exact an_fix f hsm hN (nB f * nR f + 1) (ins0 f) (by omega) (wa0 hr) hq))
  fun i hi ih => .tree E_B9_ok (liveness_analyze_L0_t _ _ _ _ _ _ _ _ _) (by
   refine qap (fun _ => ⟨⟨Int.natCast_nonneg _, ?_⟩, fun _ => ⟨?_, fun _ _ => ?_⟩⟩) fun h => absurd (Int.ofNat_lt.2 hi) (of_decide_eq_false h)
   ·show (nR f : Int) ≤ 65536
    omega
   ·have h1 := hb.1
    show ((List.replicate i (some (newS (nR f : Int)))).length + 1) * 8 ≤ roomB
    rw [List.length_replicate]
    omega
   ·have e : ap (.ptr qaa) (List.replicate i (some (newS (nR f : Int)))) [some (newS (nR f : Int))] = List.replicate (i + 1) (some (newS (nR f : Int))) := List.replicate_succ'.symm
    rw [wrapS hi (by omega)]
    rw [← e] at ih
    exact ih)
def k_liveness_analyze : Con := con [.d qai] (.ptr qag) (fun x => qfr x.1 ∧ nR x.1 ≤ 65536) fun x => analyzeF x.1
theorem m_liveness_analyze (f : Den qai) (h_f : okD qai f) (hp : qfr f ∧ nR f ≤ 65536) : Runs E_B9 (start E_B9 qbb [(.tv qai f)]) (fun r_ h_ => r_ = (.tv (.ptr qag) (analyzeF f)) ∧ h_ = []) := .tree E_B9_ok (liveness_analyze_t f) (by
 obtain ⟨hsm, hr⟩ := hp
 have hb := (okB_of h_f).1
 have hN : nB f ≤ 9223372036854775000 := by
  have h1 : nB f * 136 ≤ roomB := hb.1
  simp only [roomB] at h1
  omega
 exact an_new f hsm hr hb hN ⟨rfl, rfl⟩ 0 (Nat.zero_le _))
theorem c_liveness_analyze : qat E_B9 qbb k_liveness_analyze.spec := qcj fun x hx hp => ⟨rfl, m_liveness_analyze x.1 hx.1 hp⟩
def L_B9 : List (FuncId × FSpec) := [(qbb, k_liveness_analyze.spec)] ++ L_B8
theorem L_B9_ok : ∀ x ∈ L_B9, qat (ctx []) x.1 x.2 := by
 unfold L_B9
 simp only [List.cons_append, List.nil_append, List.forall_mem_cons]
 exact ⟨c_liveness_analyze, L_B8_ok⟩
def LI_B9 : List IoT := [] ++ LI_B8
theorem LI_B9_ok : ∀ x ∈ LI_B9, qbg (ctx []) x.1 x.2.1 x.2.2 := by
 unfold LI_B9
 simp only [List.cons_append, List.nil_append, List.forall_mem_cons]
 exact LI_B8_ok
end Burn.M24
namespace Burn.M24
open Go Go.BE Go.Proofs
set_option maxRecDepth 100000
set_option linter.unusedVariables false
set_option linter.unusedSimpArgs false
open Burn.Cfg
open Burn.Bit
noncomputable abbrev E_B10 : Ctx := ctx L_B9 LI_B9
theorem E_B10_ok : EOK E_B10 := qcz L_B9_ok LI_B9_ok
def cuts_B10 : CutL := []
def rets_B10 : FuncId → List (Option Fx)
 | _ => []
def H_B10 : Hints := { cut := cutOf cuts_B10, ret := rets_B10 }
theorem math_bits_TrailingZeros64_t (x : Int) : run E_B10 H_B10 qbs 3000 (start E_B10 qbs [(aint .u64 x)]) = (cond (x == (0 : Int)) (rt (vi (64 : Int)) []) (.chk (0 ≤ (58 : Int)) (.chk (0 ≤ (Int.fdiv (IntKind.wrap .u64 ((IntKind.wrap .u64 (bvand .u64 x (IntKind.wrap .u64 ((0 : Int) - x)))) * (285870213051353865 : Int))) (2 ^ min ((58 : Int)).toNat (IntKind.bits .u64))) ∧ (Int.fdiv (IntKind.wrap .u64 ((IntKind.wrap .u64 (bvand .u64 x (IntKind.wrap .u64 ((0 : Int) - x)))) * (285870213051353865 : Int))) (2 ^ min ((58 : Int)).toNat (IntKind.bits .u64))) < (64 : Nat)) (rt (vi (IntKind.wrap .i64 (iOf .u8 (vget (dz (.int .u8)) 64 deBr (((Int.fdiv (IntKind.wrap .u64 ((IntKind.wrap .u64 (bvand .u64 x (IntKind.wrap .u64 ((0 : Int) - x)))) * (285870213051353865 : Int))) (2 ^ min ((58 : Int)).toNat (IntKind.bits .u64)))).toNat))))) [])))) := by kernel_rfl
theorem deB_all : ∀ k : Fin 64, (0 ≤ Int.fdiv (IntKind.wrap .u64 (((2 ^ k.val : Nat) : Int) * (285870213051353865 : Int))) (2 ^ min ((58 : Int)).toNat (IntKind.bits .u64)) ∧ Int.fdiv (IntKind.wrap .u64 (((2 ^ k.val : Nat) : Int) * (285870213051353865 : Int))) (2 ^ min ((58 : Int)).toNat (IntKind.bits .u64)) < (64 : Nat)) ∧ IntKind.wrap .i64 (iOf .u8 (vget (dz (.int .u8)) 64 deBr ((Int.fdiv (IntKind.wrap .u64 (((2 ^ k.val : Nat) : Int) * (285870213051353865 : Int))) (2 ^ min ((58 : Int)).toNat (IntKind.bits .u64)))).toNat)) = (k.val : Int) := by
 decide +kernel

def qfb : Con := con [.d (.int .u64)] I (fun x => u64 x.1) fun x => tzI x.1
theorem m_math_bits_TrailingZeros64 (x : Int) (h_x : okD (.int .u64) x) (hp : u64 x) : Runs E_B10 (start E_B10 qbs [(aint .u64 x)]) (fun r_ h_ => r_ = (vi (tzI x)) ∧ h_ = []) := .tree E_B10_ok (math_bits_TrailingZeros64_t x) (by
 refine qap (fun h => ?_) fun h => ?_
 ·have h : x = 0 := by simpa using h
  subst h
  exact ⟨rfl, rfl⟩
 have h : x ≠ 0 := by simpa using h
 obtain ⟨h1, h2, _⟩ := tz_spec hp h
 have hd := deB_all ⟨_, h2⟩
 rw [lone hp h, h1]
 refine ⟨by decide, fun _ => ⟨hd.1, fun _ => ⟨?_, rfl⟩⟩⟩
 exact congrArg vi hd.2)
theorem c_math_bits_TrailingZeros64 : qat E_B10 qbs qfb.spec := qcj fun x hx hp => ⟨rfl, m_math_bits_TrailingZeros64 x.1 hx.1 hp⟩
def L_B10 : List (FuncId × FSpec) := [(qbs, qfb.spec)] ++ L_B9
theorem L_B10_ok : ∀ x ∈ L_B10, qat (ctx []) x.1 x.2 := by
 unfold L_B10
 simp only [List.cons_append, List.nil_append, List.forall_mem_cons]
 exact ⟨c_math_bits_TrailingZeros64, L_B9_ok⟩
def LI_B10 : List IoT := [] ++ LI_B9
theorem LI_B10_ok : ∀ x ∈ LI_B10, qbg (ctx []) x.1 x.2.1 x.2.2 := by
 unfold LI_B10
 simp only [List.cons_append, List.nil_append, List.forall_mem_cons]
 exact LI_B9_ok
end Burn.M24
namespace Burn.M24
open Go Go.BE Go.Proofs
set_option maxRecDepth 100000
set_option linter.unusedVariables false
set_option linter.unusedSimpArgs false
open Burn.Cfg
open Burn.Bit
noncomputable abbrev E_B11 : Ctx := ctx L_B10 LI_B10
theorem E_B11_ok : EOK E_B11 := qcz L_B10_ok LI_B10_ok
def cuts_B11 : CutL := [([(112, 2000011)], 241, 0, [0, 11, 12, 13], [], [[5]]),
 ([(112, 2000011)], 241, 2, [0, 3, 4, 11, 12, 13], [], [[5]])]
def rets_B11 : FuncId → List (Option Fx)
 | 112 => [some (.dat (.sl 1 .bool))]
 | _ => []
def H_B11 : Hints := { cut := cutOf cuts_B11, ret := rets_B11 }
noncomputable def qct (t11 : List (Den (.int .u64))) (t12 : Int) (t13 : Int) (RR : RgL) (out_0 : List (Den .bool)) : Cfg := hcfgx E_B11 f_bitset_Set_All_cl1 0 [(0, (.yld 0)), (11, (.tv (.sl 8 (.int .u64)) t11)), (12, (vi t12)), (13, (vi t13))] [(0, ⟨(.obj (.loop RR .ready none)), 0, [], false, none⟩), (1, ⟨(.cells [(.osl 3 3 [] none)]), 1, [], false, none⟩), (2, ⟨(.obj .defd), 2, [], false, none⟩), (3, ⟨(.arr 0 1 .bool out_0), 3, [], false, none⟩)] 4 [(cfrr E_B11 qcd 0 [(5, (.ref 1 0))] 0 RR).wx none [(some 2, RR)]]
noncomputable def qdp (k : Int) (w : Int) (t11 : List (Den (.int .u64))) (t12 : Int) (t13 : Int) (RR : RgL) (out_0 : List (Den .bool)) : Cfg := hcfgx E_B11 f_bitset_Set_All_cl1 2 [(0, (.yld 0)), (3, (vi k)), (4, (aint .u64 w)), (11, (.tv (.sl 8 (.int .u64)) t11)), (12, (vi t12)), (13, (vi t13))] [(0, ⟨(.obj (.loop RR .ready none)), 0, [], false, none⟩), (1, ⟨(.cells [(.osl 3 3 [] none)]), 1, [], false, none⟩), (2, ⟨(.obj .defd), 2, [], false, none⟩), (3, ⟨(.arr 0 1 .bool out_0), 3, [], false, none⟩)] 4 [(cfrr E_B11 qcd 0 [(5, (.ref 1 0))] 0 RR).wx none [(some 2, RR)]]
theorem liveness_flags_t (s : Den (.ptr qaa)) (n : Int) : run E_B11 H_B11 qcd 3000 (start E_B11 qcd [(.tv (.ptr qaa) s), (vi n)]) = (.chk (n = n) (.chk (0 ≤ n) (.chk (n.toNat * 1 ≤ roomB) (.rg fun R1 => (.chk (True) (.know True (cond (!(qer s)) (rt (.tv (.sl 1 .bool) (List.replicate n.toNat (dz .bool))) []) (.chk ((oN qaa s) = false) (hd (qct ((oG qaa s).2.2.1) ((ln (.int .u64) ((oG qaa s).2.2.1)) : Int) (0 : Int) R1 (List.replicate n.toNat (dz .bool)))))))))))) := by kernel_rfl
theorem liveness_flags_cl1_L0_t (t11 : List (Den (.int .u64))) (t12 : Int) (t13 : Int) (RR : RgL) (out_0 : List (Den .bool)) : run E_B11 H_B11 qcd 3000 (qct t11 t12 t13 RR out_0) = (cond (decide (t13 < t12)) (.chk (0 ≤ t13 ∧ t13 < (ln (.int .u64) t11)) (hd (qdp t13 (iOf .u64 (gd (.int .u64) t11 t13.toNat)) t11 t12 t13 RR out_0))) (rt (.tv (.sl 1 .bool) out_0) [])) := by kernel_rfl
theorem liveness_flags_cl1_L2_t (k : Int) (w : Int) (t11 : List (Den (.int .u64))) (t12 : Int) (t13 : Int) (RR : RgL) (out_0 : List (Den .bool)) : run E_B11 H_B11 qcd 3000 (qdp k w t11 t12 t13 RR out_0) = (cond (w != (0 : Int)) (.chk (u64 w) (.know (okD (.int .i64) (tzI w)) (.chk (RR = RR) (.chk (0 ≤ (IntKind.wrap .i64 ((IntKind.wrap .i64 ((64 : Int) * k)) + (tzI w))) ∧ (IntKind.wrap .i64 ((IntKind.wrap .i64 ((64 : Int) * k)) + (tzI w))) < (ln .bool out_0)) (.chk (((IntKind.wrap .i64 ((IntKind.wrap .i64 ((64 : Int) * k)) + (tzI w)))).toNat < (ln .bool out_0)) (hd (qdp k (IntKind.wrap .u64 (bvand .u64 w (IntKind.wrap .u64 (w - (1 : Int))))) t11 t12 t13 RR (st .bool out_0 (((IntKind.wrap .i64 ((IntKind.wrap .i64 ((64 : Int) * k)) + (tzI w)))).toNat) true)))))))) (hd (qct t11 t12 (IntKind.wrap .i64 (t13 + (1 : Int))) RR out_0))) := by kernel_rfl
def flagsF (s : Den (.ptr qaa)) (n : Int) : List (Den .bool) := outP n.toNat (fun r => hasS s (r : Int))
theorem fl_bits {Q : AV → Heap → Prop} (ws : List (Den (.int .u64))) (len : Int) (k N : Nat) (hN : N ≤ 65536) (R : RgL) : ∀ m (w : Int) (p : Nat → Bool), w.toNat < m → u64 w → (∀ j, tb w j = true → 64 * k + j < N) →
  Runs E_B11 (qct ws len (IntKind.wrap .i64 ((k : Int) + 1)) R (outP N (fun r => p r || (decide (r / 64 = k) && tb w (r % 64))))) Q → Runs E_B11 (qdp (k : Int) w ws len (k : Int) R (outP N p)) Q
 | 0, w, p, hm, _, _, _ => absurd hm (by omega)
 | m + 1, w, p, hm, hw, hb, hq => .tree E_B11_ok (liveness_flags_cl1_L2_t _ _ _ _ _ _ _) (by
  refine qap (fun h => ?_) fun h => ?_
  ·have h0 : w ≠ 0 := by simpa using h
   obtain ⟨h1, h2, h3, _⟩ := tz_spec hw h0
   obtain ⟨c1, c2, c3⟩ := clear_tb hw h0
   generalize hl : low 64 w.toNat 0 = l at h1 h2 h3 c3
   have hlt := hb l h3
   have e1 : IntKind.wrap .i64 ((64 : Int) * k) = ((64 * k : Nat) : Int) := by
    rw [show (64 : Int) * (k : Int) = ((64 * k : Nat) : Int) by omega]
    exact wrap64 _ (by omega) (by omega)
   have e2 : IntKind.wrap .i64 (((64 * k : Nat) : Int) + (l : Int)) = ((64 * k + l : Nat) : Int) := by
    rw [show ((64 * k : Nat) : Int) + (l : Int) = ((64 * k + l : Nat) : Int) by omega]
    exact wrap64 _ (by omega) (by omega)
   have el : ln .bool (outP N p) = N := outP_len N p
   have es : st .bool (outP N p) (64 * k + l) true = outP N (fun r => if r = 64 * k + l then true else p r) := outP_set N p (64 * k + l) true
   refine ⟨hw, fun _ _ => ⟨rfl, fun _ => ?_⟩⟩
   rw [h1, e1, e2, el, Int.toNat_natCast, es]
   refine ⟨⟨Int.natCast_nonneg _, Int.ofNat_lt.2 hlt⟩, fun _ => ⟨hlt, fun _ => ?_⟩⟩
   refine fl_bits ws len k N hN R m _ _ (by omega) c1 (fun j hj => hb j ?_) ?_
   ·rw [c3] at hj
    simp only [Bool.and_eq_true] at hj
    exact hj.1
   ·have eq : (fun r => (if r = 64 * k + l then true else p r) || (decide (r / 64 = k) && tb (IntKind.wrap .u64 (bvand .u64 w (IntKind.wrap .u64 (w - (1 : Int))))) (r % 64))) = (fun r => p r || (decide (r / 64 = k) && tb w (r % 64))) := by
     funext r
     rw [c3]
     by_cases hr : r = 64 * k + l
     ·have a1 : r / 64 = k := by omega
      have a2 : r % 64 = l := by omega
      rw [if_pos hr, a2, h3, decide_eq_true a1]
      simp
     ·rw [if_neg hr]
      by_cases hd : r / 64 = k
      ·rw [decide_eq_false (show ¬ r % 64 = l by omega)]
       simp
      ·rw [decide_eq_false hd]
       simp
    rw [eq]
    exact hq
  ·have h0 : w = 0 := by simpa using h
   subst h0
   have eq : (fun r => p r || (decide (r / 64 = k) && tb 0 (r % 64))) = p := by
    funext r
    rw [tb_zero, Bool.and_false, Bool.or_false]
   rw [eq] at hq
   exact hq)
theorem fl_words (s : SetD) (hs : WF s) (N : Nat) (hN : N = (z s.2.1).toNat) (hr : room 8 (ln (.int .u64) s.2.2.1)) (R : RgL) : ∀ k, k ≤ ln (.int .u64) s.2.2.1 → ∀ p : Nat → Bool, Runs E_B11 (qct s.2.2.1 (ln (.int .u64) s.2.2.1 : Nat) k R (outP N p)) (fun r_ h_ => r_ = .tv (.sl 1 .bool) (outP N (fun r => p r || (decide (k ≤ r / 64) && memW s.2.2.1 r))) ∧ h_ = []) :=
 qes (fun p => .tree E_B11_ok (liveness_flags_cl1_L0_t _ _ _ _ _) (by
  refine qap (fun h => absurd (of_decide_eq_true h) (Int.lt_irrefl _)) fun _ => ?_
  have eq : outP N (fun r => p r || (decide (ln (.int .u64) s.2.2.1 ≤ r / 64) && memW s.2.2.1 r)) = outP N p := outP_ext fun r hr => by
   have := hs.ok.lt (r := r) (by omega)
   rw [decide_eq_false (show ¬ ln (.int .u64) s.2.2.1 ≤ r / 64 from fun h => absurd this (by show ¬ r / 64 < s.2.2.1.length; have h : s.2.2.1.length ≤ r / 64 := h; omega)), Bool.false_and, Bool.or_false]
  rw [eq]
  exact ⟨rfl, rfl⟩))
  fun k hk ih p => .tree E_B11_ok (liveness_flags_cl1_L0_t _ _ _ _ _) (by
   have hhi := hs.hi
   refine qap (fun _ => ⟨⟨Int.natCast_nonneg _, Int.ofNat_lt.2 hk⟩, fun _ => ?_⟩) fun h => absurd (Int.ofNat_lt.2 hk) (of_decide_eq_false h)
   rw [Int.toNat_natCast]
   refine fl_bits s.2.2.1 _ k N (by omega) R ((s.2.2.1.getD k 0).toNat + 1) (s.2.2.1.getD k 0) p (by omega) (hs.ok.get k) (fun j hj => ?_) ?_
   ·have hj64 : j < 64 := Nat.lt_of_not_le fun h => by
     rw [tb_big (hs.ok.get k) h] at hj
     exact absurd hj (by decide)
    have hm : memW s.2.2.1 (64 * k + j) = true := by
     unfold memW
     rw [show (64 * k + j) / 64 = k by omega, show (64 * k + j) % 64 = j by omega]
     exact hj
    refine Nat.lt_of_not_le fun h => ?_
    rw [hs.ok.top (64 * k + j) (by omega)] at hm
    exact absurd hm (by decide)
   ·rw [wrapS hk (qdm hr)]
    have := ih (fun r => p r || (decide (r / 64 = k) && tb (s.2.2.1.getD k 0) (r % 64)))
    have eq : (fun r => (p r || (decide (r / 64 = k) && tb (s.2.2.1.getD k 0) (r % 64))) || (decide (k + 1 ≤ r / 64) && memW s.2.2.1 r)) = (fun r => p r || (decide (k ≤ r / 64) && memW s.2.2.1 r)) := by
     funext r
     by_cases h : r / 64 = k
     ·rw [decide_eq_true h, decide_eq_false (show ¬ k + 1 ≤ r / 64 by omega), decide_eq_true (show k ≤ r / 64 by omega)]
      unfold memW
      rw [h]
      simp
     ·rw [decide_eq_false h, show decide (k + 1 ≤ r / 64) = decide (k ≤ r / 64) from decide_eq_decide.2 (by omega)]
      simp
    rw [eq] at this
    exact this)
def k_liveness_flags : Con := con [.d (.ptr qaa), .d I] (.sl 1 .bool) (fun x => wfP x.1 ∧ z x.2.1 = z (oG qaa x.1).2.1) fun x => flagsF x.1 x.2.1
theorem m_liveness_flags (s : Den (.ptr qaa)) (n : Int) (h_s : okD (.ptr qaa) s) (h_n : okD I n) (hp : wfP s ∧ z n = z (oG qaa s).2.1) : Runs E_B11 (start E_B11 qcd [(.tv (.ptr qaa) s), (vi n)]) (fun r_ h_ => r_ = (.tv (.sl 1 .bool) (flagsF s n)) ∧ h_ = []) := .tree E_B11_ok (liveness_flags_t s n) (by
 obtain ⟨⟨y, rfl, hy⟩, hn⟩ := hp
 have hn : n = z y.2.1 := hn
 have hlo := hy.lo
 have hhi := hy.hi
 refine ⟨rfl, fun _ => ⟨by omega, fun _ => ⟨?_, fun _ R => ⟨trivial, fun _ _ => ?_⟩⟩⟩⟩
 ·simp only [roomB]
  omega
 refine qap (fun h => absurd (h.symm.trans (show (!(qer (some y))) = false by rw [show qer (some y) = true from hy.made]; rfl)) (by decide)) fun _ => ⟨rfl, fun _ => ?_⟩
 have hroom : room 8 (ln (.int .u64) y.2.2.1) := by
  have := hy.ok.len
  have h : ln (.int .u64) y.2.2.1 ≤ 2000 := by show y.2.2.1.length ≤ 2000; omega
  refine ⟨?_, ?_⟩ <;> simp only [roomB] <;> omega
 have := fl_words y hy n.toNat (by rw [hn]) hroom R 0 (Nat.zero_le _) (fun _ => false)
 rw [← outP_false] at this
 have eq : outP n.toNat (fun r => false || (decide (0 ≤ r / 64) && memW y.2.2.1 r)) = flagsF (some y) n := outP_ext fun r _ => by
  rw [decide_eq_true (Nat.zero_le _), Bool.true_and, Bool.false_or]
  exact (hy.nat r).symm
 rw [eq] at this
 exact this)
theorem c_liveness_flags : qat E_B11 qcd k_liveness_flags.spec := qcj fun x hx hp => ⟨rfl, m_liveness_flags x.1 x.2.1 hx.1 hx.2.1 hp⟩
def L_B11 : List (FuncId × FSpec) := [(qcd, k_liveness_flags.spec)] ++ L_B10
theorem L_B11_ok : ∀ x ∈ L_B11, qat (ctx []) x.1 x.2 := by
 unfold L_B11
 simp only [List.cons_append, List.nil_append, List.forall_mem_cons]
 exact ⟨c_liveness_flags, L_B10_ok⟩
def LI_B11 : List IoT := [] ++ LI_B10
theorem LI_B11_ok : ∀ x ∈ LI_B11, qbg (ctx []) x.1 x.2.1 x.2.2 := by
 unfold LI_B11
 simp only [List.cons_append, List.nil_append, List.forall_mem_cons]
 exact LI_B10_ok
end Burn.M24
namespace Burn.M24
open Go Go.BE Go.Proofs
set_option maxRecDepth 100000
set_option linter.unusedVariables false
set_option linter.unusedSimpArgs false
open Burn.Cfg
open Burn.Bit
noncomputable abbrev E_B12 : Ctx := ctx L_B11 LI_B11
theorem E_B12_ok : EOK E_B12 := qcz L_B11_ok LI_B11_ok
def cuts_B12 : CutL := [([], 57, 0, [1, 3, 4, 10, 11], [(.t 4, .own 24 (.sl 1 .bool))], [])]
def rets_B12 : FuncId → List (Option Fx)
 | 57 => [some (.dat (.sl 24 (.sl 1 .bool)))]
 | _ => []
def H_B12 : Hints := { cut := cutOf cuts_B12, ret := rets_B12 }
noncomputable def liveness_In_L0 (f : Den qai) (a : Den (.ptr qag)) (t10 : Int) (t11 : Int) (out : List (Den (.sl 1 .bool))) : Cfg := hcfg E_B12 qed 0 [(1, (.rtp qai f)), (3, (.tv (.ptr qag) a)), (4, (.osl 0 0 [] none)), (10, (vi t10)), (11, (vi t11))] [(0, ⟨(.arr 0 24 (.sl 1 .bool) out), 0, [], false, none⟩)] 1
theorem liveness_In_t (f : Den qai) : run E_B12 H_B12 qed 3000 (start E_B12 qed [(.tv qai f)]) = (.chk (qfr f ∧ nR f ≤ 65536) (.know (okD (.ptr qag) (analyzeF f)) (hd (liveness_In_L0 f (analyzeF f) ((ln qad f.2.2.2.2.1) : Int) (0 : Int) ([] : List (Den (.sl 1 .bool))))))) := by kernel_rfl
theorem liveness_In_L0_t (f : Den qai) (a : Den (.ptr qag)) (t10 : Int) (t11 : Int) (out : List (Den (.sl 1 .bool))) : run E_B12 H_B12 qed 3000 (liveness_In_L0 f a t10 t11 out) = (cond (decide (t11 < t10)) (.chk ((oN qag a) = false) (.chk (0 ≤ t11 ∧ t11 < (ln (.ptr qaa) ((oG qag a).2.1))) (.chk (wfP (gd (.ptr qaa) ((oG qag a).2.1) t11.toNat) ∧ z ((ln I f.2.2.2.1) : Int) = z (oG qaa (gd (.ptr qaa) ((oG qag a).2.1) t11.toNat)).2.1) (.chk (((ln (.sl 1 .bool) out) + (1 : Nat)) * 24 ≤ roomB) (.know (okD (.sl 1 .bool) (flagsF (gd (.ptr qaa) ((oG qag a).2.1) t11.toNat) ((ln I f.2.2.2.1) : Int))) (hd (liveness_In_L0 f a t10 (IntKind.wrap .i64 (t11 + (1 : Int))) (ap (.sl 1 .bool) out ([(flagsF (gd (.ptr qaa) ((oG qag a).2.1) t11.toNat) ((ln I f.2.2.2.1) : Int))] : List (Den (.sl 1 .bool))))))))))) (rt (.tv (.sl 24 (.sl 1 .bool)) out) [])) := by kernel_rfl
def mapN {α : Type} (n : Nat) (g : Nat → α) : List α := (List.range n).map g
theorem mapN_len {α : Type} (n : Nat) (g : Nat → α) : (mapN n g).length = n := by simp [mapN]
theorem mapN_succ {α : Type} (n : Nat) (g : Nat → α) : mapN (n + 1) g = mapN n g ++ [g n] := by simp [mapN, List.range_succ]
def InF (f : Fn) : List (Den (.sl 1 .bool)) := mapN (nB f) (fun b => flagsF (gd (.ptr qaa) (anF f) b) (nR f : Int))
theorem WA.fix {f : Fn} : ∀ {m : Nat} {ins : Ins}, WA (aOf f ins) → WA (aOf f (fixA f m ins))
 | 0, _, h => h
 | m + 1, ins, h => by
  show WA (aOf f (cond (passF f (nB f) ins false).2 (fixA f m (passF f (nB f) ins false).1) (passF f (nB f) ins false).1))
  have hp := WA.pass (c := false) (Nat.le_refl _) h
  cases (passF f (nB f) ins false).2 with
  | true => exact WA.fix hp
  | false => exact hp
theorem wa_an {f : Fn} (h : nR f ≤ 65536) : WA (aOf f (anF f)) := (wa0 h).fix
theorem an_set {f : Fn} (h : nR f ≤ 65536) {b : Nat} (hb : b < nB f) : wfP (gd (.ptr qaa) (anF f) b) ∧ (nR f : Int) = z (oG qaa (gd (.ptr qaa) (anF f) b)).2.1 := by
 obtain ⟨y, h1, h2, h3⟩ := (wa_an h).ok b hb
 have h1 : gd (.ptr qaa) (anF f) b = some y := h1
 rw [h1]
 exact ⟨⟨y, rfl, h2⟩, h3.symm⟩
theorem In_l (f : Fn) (hr : nR f ≤ 65536) (hb : room 136 (nB f)) : ∀ i, i ≤ nB f → Runs E_B12 (liveness_In_L0 f (analyzeF f) (nB f : Nat) i (mapN i (fun b => flagsF (gd (.ptr qaa) (anF f) b) (nR f : Int)))) (fun x h => x = .tv (.sl 24 (.sl 1 .bool)) (InF f) ∧ h = []) :=
 qes (.tree E_B12_ok (liveness_In_L0_t _ _ _ _ _) (by
  refine qap (fun h => absurd (of_decide_eq_true h) (Int.lt_irrefl _)) fun _ => ?_
  exact ⟨rfl, rfl⟩))
  fun i hi ih => .tree E_B12_ok (liveness_In_L0_t _ _ _ _ _) (by
   have hl : ln (.ptr qaa) (anF f) = nB f := (wa_an hr).len
   refine qap (fun _ => ⟨rfl, fun _ => ⟨⟨Int.natCast_nonneg _, ?_⟩, fun _ => ?_⟩⟩) fun h => absurd (Int.ofNat_lt.2 hi) (of_decide_eq_false h)
   ·show (i : Int) < (ln (.ptr qaa) (anF f) : Int)
    omega
   rw [Int.toNat_natCast]
   refine ⟨an_set hr hi, fun _ => ⟨?_, fun _ _ => ?_⟩⟩
   ·have h1 := hb.1
    have e : ln (.sl 1 .bool) (mapN i (fun b => flagsF (gd (.ptr qaa) (anF f) b) (nR f : Int))) = i := mapN_len _ _
    rw [e]
    omega
   ·rw [wrapS hi (qdm hb)]
    rw [mapN_succ] at ih
    exact ih)
def k_liveness_In : Con := con [.d qai] (.sl 24 (.sl 1 .bool)) (fun x => qfr x.1 ∧ nR x.1 ≤ 65536) fun x => InF x.1
theorem m_liveness_In (f : Den qai) (h_f : okD qai f) (hp : qfr f ∧ nR f ≤ 65536) : Runs E_B12 (start E_B12 qed [(.tv qai f)]) (fun r_ h_ => r_ = (.tv (.sl 24 (.sl 1 .bool)) (InF f)) ∧ h_ = []) := .tree E_B12_ok (liveness_In_t f) (by
 obtain ⟨hsm, hr⟩ := hp
 exact ⟨⟨hsm, hr⟩, fun _ _ => In_l f hr (okB_of h_f).1 0 (Nat.zero_le _)⟩)
theorem c_liveness_In : qat E_B12 qed k_liveness_In.spec := qcj fun x hx hp => ⟨rfl, m_liveness_In x.1 hx.1 hp⟩
def L_B12 : List (FuncId × FSpec) := [(qed, k_liveness_In.spec)] ++ L_B11
theorem L_B12_ok : ∀ x ∈ L_B12, qat (ctx []) x.1 x.2 := by
 unfold L_B12
 simp only [List.cons_append, List.nil_append, List.forall_mem_cons]
 exact ⟨c_liveness_In, L_B11_ok⟩
def LI_B12 : List IoT := [] ++ LI_B11
theorem LI_B12_ok : ∀ x ∈ LI_B12, qbg (ctx []) x.1 x.2.1 x.2.2 := by
 unfold LI_B12
 simp only [List.cons_append, List.nil_append, List.forall_mem_cons]
 exact LI_B11_ok
end Burn.M24
namespace Burn.M24
open Go Go.BE Go.Proofs
set_option maxRecDepth 100000
set_option linter.unusedVariables false
set_option linter.unusedSimpArgs false
noncomputable abbrev E_X9 : Ctx := ctx L_B12 LI_B12
theorem E_X9_ok : EOK E_X9 := qcz L_B12_ok LI_B12_ok
def cuts_X9 : CutL := []
def rets_X9 : FuncId → List (Option Fx)
 | _ => []
def H_X9 : Hints := { cut := cutOf cuts_X9, ret := rets_X9 }
def H_X9_u_witness_sameSignature : Hints := { H_X9 with unr := fun _ _ => true }
theorem witness_sameSignature_t : run E_X9 H_X9_u_witness_sameSignature qck 1000000 (start E_X9 qck [(.tv qai (⟨#[102]⟩, ([(0 : Int)] : List (Den I)), (3 : Int), ([(3 : Int)] : List (Den I)), ([(([] : List (Den I)), ([] : List (Den qah)), ((4 : Int), ([(0 : Int)] : List (Den I)), ([] : List (Den I)), ([] : List (Den qaf)), (0 : Int), ()), ())] : List (Den qad)), ())), (.tv qai (⟨#[102]⟩, ([(0 : Int)] : List (Den I)), (3 : Int), ([(3 : Int)] : List (Den I)), ([(([] : List (Den I)), ([] : List (Den qah)), ((4 : Int), ([(0 : Int)] : List (Den I)), ([] : List (Den I)), ([] : List (Den qaf)), (0 : Int), ()), ())] : List (Den qad)), ()))]) = (.chk (0 ≤ (0 : Int) ∧ (0 : Int) < (1 : Nat)) (.chk (0 ≤ (0 : Int) ∧ (0 : Int) < (1 : Nat)) (.chk (0 ≤ (0 : Int) ∧ (0 : Int) < (1 : Nat)) (.chk (0 ≤ (0 : Int) ∧ (0 : Int) < (1 : Nat)) (rt (vb true) []))))) := by kernel_rfl
def k_witness_sameSignature : LitC := { ps := [.d qai, .d qai], L := ((⟨#[102]⟩, ([(0 : Int)] : List (Den I)), (3 : Int), ([(3 : Int)] : List (Den I)), ([(([] : List (Den I)), ([] : List (Den qah)), ((4 : Int), ([(0 : Int)] : List (Den I)), ([] : List (Den I)), ([] : List (Den qaf)), (0 : Int), ()), ())] : List (Den qad)), ()), (⟨#[102]⟩, ([(0 : Int)] : List (Den I)), (3 : Int), ([(3 : Int)] : List (Den I)), ([(([] : List (Den I)), ([] : List (Den qah)), ((4 : Int), ([(0 : Int)] : List (Den I)), ([] : List (Den I)), ([] : List (Den qaf)), (0 : Int), ()), ())] : List (Den qad)), ()), ()), res := (vb true), roots := [] }
theorem m_witness_sameSignature : Runs E_X9 (start E_X9 qck [(.tv qai (⟨#[102]⟩, ([(0 : Int)] : List (Den I)), (3 : Int), ([(3 : Int)] : List (Den I)), ([(([] : List (Den I)), ([] : List (Den qah)), ((4 : Int), ([(0 : Int)] : List (Den I)), ([] : List (Den I)), ([] : List (Den qaf)), (0 : Int), ()), ())] : List (Den qad)), ())), (.tv qai (⟨#[102]⟩, ([(0 : Int)] : List (Den I)), (3 : Int), ([(3 : Int)] : List (Den I)), ([(([] : List (Den I)), ([] : List (Den qah)), ((4 : Int), ([(0 : Int)] : List (Den I)), ([] : List (Den I)), ([] : List (Den qaf)), (0 : Int), ()), ())] : List (Den qad)), ()))]) (fun r_ h_ => r_ = (vb true) ∧ h_ = []) := .tree E_X9_ok witness_sameSignature_t (by
 repeat (first | refine qdb ?_ | refine qev (by first | decide) ?_)
 exact ⟨rfl, rfl⟩)
theorem c_witness_sameSignature : qat E_X9 qck k_witness_sameSignature.spec := qfm rfl ⟨rfl, m_witness_sameSignature⟩
def L_X9 : List (FuncId × FSpec) := [(qck, k_witness_sameSignature.spec)] ++ L_B12
theorem L_X9_ok : ∀ x ∈ L_X9, qat (ctx []) x.1 x.2 := by
 unfold L_X9
 simp only [List.cons_append, List.nil_append, List.forall_mem_cons]
 exact ⟨c_witness_sameSignature, L_B12_ok⟩
def LI_X9 : List IoT := [] ++ LI_B12
theorem LI_X9_ok : ∀ x ∈ LI_X9, qbg (ctx []) x.1 x.2.1 x.2.2 := by
 unfold LI_X9
 simp only [List.cons_append, List.nil_append, List.forall_mem_cons]
 exact LI_B12_ok
end Burn.M24
