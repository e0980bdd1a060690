/- What the functions that the law reaches compute, one contract each. No conditions beyond those written. -/
import Derived.Test.YteaealfalanccaaGreatDoorEngineD
import Derived.Test.YteaealfalanccaaGreatDoorProg
import Derived.KernelRfl
import Derived.Test.YteaealfalanccaaGreatDoorPlainA
import Derived.Laws.Strings
import Derived.Laws.RangeAny
namespace Burn.MTT
open Go Go.BE Go.Proofs
set_option maxRecDepth 100000
abbrev s_runtime_boundsError : Sh := (.pair I (.pair I (.pair .bool (.pair (.int .u8) .unit))))
abbrev qfn : Sh := (.pair .str (.pair (.int .u64) .unit))
abbrev qaf : Sh := (.pair .str (.pair I (.pair I (.pair (.sl 8 I) (.pair .bool .unit)))))
abbrev qac : Sh := (.pair I (.pair I (.pair I (.pair (.sl 8 I) (.pair I (.pair I (.pair I (.pair .bool .unit))))))))
abbrev qae : Sh := (.pair I (.pair (.sl 8 I) .unit))
abbrev qai : Sh := (.pair I (.pair (.sl 8 I) (.pair (.sl 8 I) (.pair (.sl 32 qae) (.pair I .unit)))))
abbrev qaa : Sh := (.pair (.sl 8 I) (.pair (.sl 80 qac) (.pair qai .unit)))
abbrev qab : Sh := (.pair .str (.pair (.sl 8 I) (.pair I (.pair (.sl 8 I) (.pair (.sl 136 qaa) .unit)))))
abbrev qad : Sh := (.pair (.sl 64 qaf) (.pair (.sl 96 qab) .unit))
abbrev qan : Sh := (.pair .str (.pair (.sl 8 I) (.pair I (.pair (.sl 8 I) (.pair I (.pair I (.pair (.sl 136 qaa) .unit)))))))
abbrev qaj : Sh := (.pair I (.pair I (.pair I (.pair I (.pair I .unit)))))
abbrev qao : Sh := (.pair I (.pair I (.pair (.sl 8 I) .unit)))
abbrev qah : Sh := (.pair qad (.pair qan .unit))
abbrev s_verify_failure : Sh := (.pair qaj .unit)
abbrev qak : Sh := (.pair I (.pair I (.pair I (.pair I .unit))))
abbrev qaq : Sh := (.pair .str (.pair I .unit))
def tyN : Nat := 182
def tyTr : Tr TI := (.node none (.node (some ⟨.other, 1, 8, [.nilFunc], none⟩) (.node (some ⟨.int .i64, 1, 8, [.int .i64 0], some I⟩) (.node (some ⟨.struct [⟨0, 1, false⟩, ⟨1, 1, false⟩, ⟨2, 1, false⟩, ⟨3, 1, false⟩], 4, 24, [.int .i64 0, .int .i64 0, .bool false, .int .u8 0], some s_runtime_boundsError⟩) (.node (some ⟨.ptr 168, 1, 8, [.pointer none], none⟩) (.node (some ⟨.struct [⟨0, 1, false⟩, ⟨1, 1, false⟩, ⟨2, 1, false⟩, ⟨3, 1, false⟩, ⟨4, 1, false⟩, ⟨5, 1, false⟩, ⟨6, 1, false⟩], 7, 112, [.string ⟨#[]⟩, .slice none 0 0, .int .i64 0, .slice none 0 0, .int .i64 0, .int .i64 0, .slice none 0 0], some qan⟩) (.node (some ⟨.other, 1, 8, [.nilFunc], none⟩) (.node (some ⟨.other, 1, 8, [.nilFunc], none⟩) .leaf .leaf) .leaf) (.node (some ⟨.other, 1, 8, [.nilFunc], none⟩) (.node (some ⟨.other, 1, 8, [.nilFunc], none⟩) .leaf .leaf) .leaf)) (.node (some ⟨.struct [⟨0, 1, false⟩, ⟨1, 1, false⟩, ⟨2, 1, false⟩, ⟨3, 1, false⟩, ⟨4, 1, false⟩], 5, 88, [.int .i64 0, .slice none 0 0, .slice none 0 0, .slice none 0 0, .int .i64 0], some qai⟩) (.node (some ⟨.other, 1, 8, [.nilFunc], none⟩) (.node (some ⟨.arr 24 5, 24, 24, [.int .u8 0, .int .u8 0, .int .u8 0, .int .u8 0, .int .u8 0, .int .u8 0, .int .u8 0, .int .u8 0, .int .u8 0, .int .u8 0, .int .u8 0, .int .u8 0, .int .u8 0, .int .u8 0, .int .u8 0, .int .u8 0, .int .u8 0, .int .u8 0, .int .u8 0, .int .u8 0, .int .u8 0, .int .u8 0, .int .u8 0, .int .u8 0], some (.arr 24 (.int .u8))⟩) .leaf .leaf) .leaf) (.node (some ⟨.slice 9, 1, 24, [.slice none 0 0], some (.sl 16 .str)⟩) (.node (some ⟨.other, 1, 8, [.nilFunc], none⟩) .leaf .leaf) .leaf))) (.node (some ⟨.slice 42, 1, 24, [.slice none 0 0], some (.sl 96 qab)⟩) (.node (some ⟨.struct [⟨0, 1, false⟩, ⟨1, 1, false⟩, ⟨2, 1, false⟩, ⟨3, 1, false⟩, ⟨4, 1, false⟩], 5, 40, [.int .i64 0, .int .i64 0, .int .i64 0, .int .i64 0, .int .i64 0], some qaj⟩) (.node (some ⟨.other, 1, 8, [.nilFunc], none⟩) (.node (some ⟨.other, 1, 8, [.nilFunc], none⟩) .leaf .leaf) .leaf) (.node (some ⟨.other, 1, 8, [.nilFunc], none⟩) (.node (some ⟨.struct [⟨0, 1, false⟩, ⟨1, 1, false⟩, ⟨2, 1, false⟩, ⟨3, 1, false⟩], 4, 40, [.pointer none, .pointer none, .pointer none, .string ⟨#[]⟩], none⟩) .leaf .leaf) .leaf)) (.node (some ⟨.struct [⟨0, 1, false⟩, ⟨1, 1, false⟩], 2, 32, [.int .i64 0, .slice none 0 0], some qae⟩) (.node (some ⟨.other, 1, 8, [.nilFunc], none⟩) (.node (some ⟨.other, 1, 8, [.nilFunc], none⟩) .leaf .leaf) .leaf) (.node (some ⟨.slice 122, 1, 24, [.slice none 0 0], some (.sl 24 qaq)⟩) .leaf .leaf)))) (.node (some ⟨.str, 1, 16, [.string ⟨#[]⟩], some .str⟩) (.node (some ⟨.struct [⟨0, 1, false⟩], 1, 8, [.pointer none], none⟩) (.node (some ⟨.int .i64, 1, 8, [.int .i64 0], some I⟩) (.node (some ⟨.struct [⟨0, 2, true⟩, ⟨2, 7, true⟩], 9, 160, [.slice none 0 0, .slice none 0 0, .string ⟨#[]⟩, .slice none 0 0, .int .i64 0, .slice none 0 0, .int .i64 0, .int .i64 0, .slice none 0 0], some qah⟩) (.node (some ⟨.other, 1, 8, [.nilFunc], none⟩) .leaf .leaf) .leaf) (.node (some ⟨.other, 1, 8, [.nilFunc], none⟩) (.node (some ⟨.other, 1, 8, [.nilFunc], none⟩) .leaf .leaf) .leaf)) (.node (some ⟨.ptr 53, 1, 8, [.pointer none], some (.ptr qac)⟩) (.node (some ⟨.other, 1, 8, [.nilFunc], none⟩) (.node (some ⟨.slice 5, 1, 24, [.slice none 0 0], some (.sl 1 (.int .u8))⟩) .leaf .leaf) .leaf) (.node (some ⟨.other, 1, 8, [.nilFunc], none⟩) (.node (some ⟨.struct [⟨0, 1, false⟩, ⟨1, 1, false⟩, ⟨2, 1, false⟩, ⟨3, 1, false⟩, ⟨4, 1, false⟩, ⟨5, 1, false⟩, ⟨6, 1, false⟩, ⟨7, 1, false⟩, ⟨8, 1, false⟩, ⟨9, 1, false⟩, ⟨10, 1, false⟩], 11, 48, [.int .u64 0, .int .u64 0, .int .u32 0, .int .u8 0, .int .u8 0, .int .u8 0, .int .u8 0, .nilFunc, .pointer none, .int .i32 0, .int .i32 0], none⟩) .leaf .leaf) .leaf))) (.node (some ⟨.int .i64, 1, 8, [.int .i64 0], some I⟩) (.node (some ⟨.other, 1, 8, [.nilFunc], none⟩) (.node (some ⟨.other, 1, 8, [.nilFunc], none⟩) (.node (some ⟨.other, 1, 8, [.nilFunc], none⟩) .leaf .leaf) .leaf) (.node none (.node (some ⟨.struct [⟨0, 0, true⟩], 0, 0, [], none⟩) .leaf .leaf) .leaf)) (.node (some ⟨.struct [⟨0, 1, false⟩, ⟨1, 1, false⟩, ⟨2, 1, false⟩], 3, 40, [.int .i64 0, .int .i64 0, .slice none 0 0], some qao⟩) (.node (some ⟨.other, 1, 8, [.nilFunc], none⟩) (.node (some ⟨.arr 20 144, 20, 160, [.int .u64 0, .int .u64 0, .int .u64 0, .int .u64 0, .int .u64 0, .int .u64 0, .int .u64 0, .int .u64 0, .int .u64 0, .int .u64 0, .int .u64 0, .int .u64 0, .int .u64 0, .int .u64 0, .int .u64 0, .int .u64 0, .int .u64 0, .int .u64 0, .int .u64 0, .int .u64 0], some (.arr 20 (.int .u64))⟩) .leaf .leaf) .leaf) (.node (some ⟨.other, 1, 8, [.nilFunc], none⟩) .leaf .leaf))))) (.node (some ⟨.int .u8, 1, 1, [.int .u8 0], some (.int .u8)⟩) (.node (some ⟨.str, 1, 16, [.string ⟨#[]⟩], some .str⟩) (.node (some ⟨.ptr 180, 1, 8, [.pointer none], none⟩) (.node (some ⟨.other, 1, 8, [.nilFunc], none⟩) (.node (some ⟨.other, 1, 8, [.nilFunc], none⟩) (.node (some ⟨.other, 1, 8, [.nilFunc], none⟩) .leaf .leaf) .leaf) (.node (some ⟨.other, 1, 8, [.nilFunc], none⟩) (.node (some ⟨.arr 5 3, 5, 40, [.int .i64 0, .int .i64 0, .int .i64 0, .int .i64 0, .int .i64 0], some (.arr 5 I)⟩) .leaf .leaf) .leaf)) (.node (some ⟨.struct [⟨0, 1, false⟩, ⟨1, 1, false⟩, ⟨2, 5, true⟩], 7, 136, [.slice none 0 0, .slice none 0 0, .int .i64 0, .slice none 0 0, .slice none 0 0, .slice none 0 0, .int .i64 0], some qaa⟩) (.node (some ⟨.other, 1, 8, [.nilFunc], none⟩) (.node (some ⟨.other, 1, 8, [.nilFunc], none⟩) .leaf .leaf) .leaf) (.node (some ⟨.other, 1, 8, [.nilFunc], none⟩) (.node (some ⟨.int .i32, 1, 4, [.int .i32 0], some (.int .i32)⟩) .leaf .leaf) .leaf))) (.node (some ⟨.struct [⟨0, 1, false⟩, ⟨1, 1, false⟩], 2, 48, [.slice none 0 0, .slice none 0 0], some qad⟩) (.node (some ⟨.struct [⟨0, 1, false⟩, ⟨1, 1, false⟩, ⟨2, 1, false⟩, ⟨3, 1, false⟩, ⟨4, 1, false⟩], 5, 96, [.string ⟨#[]⟩, .slice none 0 0, .int .i64 0, .slice none 0 0, .slice none 0 0], some qab⟩) (.node (some ⟨.other, 1, 8, [.nilFunc], none⟩) (.node (some ⟨.other, 1, 8, [.nilFunc], none⟩) .leaf .leaf) .leaf) (.node (some ⟨.struct [⟨0, 5, true⟩], 5, 40, [.int .i64 0, .int .i64 0, .int .i64 0, .int .i64 0, .int .i64 0], some s_verify_failure⟩) (.node (some ⟨.arr 0 16, 0, 0, [], none⟩) .leaf .leaf) .leaf)) (.node (some ⟨.struct [⟨0, 1, false⟩, ⟨1, 1, false⟩, ⟨2, 1, false⟩, ⟨3, 1, false⟩, ⟨4, 1, false⟩], 5, 64, [.string ⟨#[]⟩, .int .i64 0, .int .i64 0, .slice none 0 0, .bool false], some qaf⟩) (.node (some ⟨.other, 1, 8, [.nilFunc], none⟩) (.node (some ⟨.other, 1, 8, [.nilFunc], none⟩) .leaf .leaf) .leaf) (.node (some ⟨.struct [⟨0, 1, false⟩, ⟨1, 1, false⟩], 2, 24, [.string ⟨#[]⟩, .int .i64 0], some qaq⟩) .leaf .leaf)))) (.node (some ⟨.struct [⟨0, 1, false⟩, ⟨1, 1, false⟩], 2, 24, [.string ⟨#[]⟩, .int .u64 0], some qfn⟩) (.node (some ⟨.int .i32, 1, 4, [.int .i32 0], some (.int .i32)⟩) (.node (some ⟨.other, 1, 8, [.nilFunc], none⟩) (.node (some ⟨.other, 1, 8, [.nilFunc], none⟩) (.node none .leaf .leaf) .leaf) (.node (some ⟨.other, 1, 8, [.nilFunc], none⟩) (.node (some ⟨.arr 64 5, 64, 64, [.int .u8 0, .int .u8 0, .int .u8 0, .int .u8 0, .int .u8 0, .int .u8 0, .int .u8 0, .int .u8 0, .int .u8 0, .int .u8 0, .int .u8 0, .int .u8 0, .int .u8 0, .int .u8 0, .int .u8 0, .int .u8 0, .int .u8 0, .int .u8 0, .int .u8 0, .int .u8 0, .int .u8 0, .int .u8 0, .int .u8 0, .int .u8 0, .int .u8 0, .int .u8 0, .int .u8 0, .int .u8 0, .int .u8 0, .int .u8 0, .int .u8 0, .int .u8 0, .int .u8 0, .int .u8 0, .int .u8 0, .int .u8 0, .int .u8 0, .int .u8 0, .int .u8 0, .int .u8 0, .int .u8 0, .int .u8 0, .int .u8 0, .int .u8 0, .int .u8 0, .int .u8 0, .int .u8 0, .int .u8 0, .int .u8 0, .int .u8 0, .int .u8 0, .int .u8 0, .int .u8 0, .int .u8 0, .int .u8 0, .int .u8 0, .int .u8 0, .int .u8 0, .int .u8 0, .int .u8 0, .int .u8 0, .int .u8 0, .int .u8 0, .int .u8 0], some (.arr 64 (.int .u8))⟩) .leaf .leaf) .leaf)) (.node (some ⟨.struct [⟨0, 1, false⟩, ⟨1, 1, false⟩, ⟨2, 1, false⟩, ⟨3, 1, false⟩, ⟨4, 1, false⟩, ⟨5, 1, false⟩, ⟨6, 1, false⟩, ⟨7, 1, false⟩], 8, 80, [.int .i64 0, .int .i64 0, .int .i64 0, .slice none 0 0, .int .i64 0, .int .i64 0, .int .i64 0, .bool false], some qac⟩) (.node (some ⟨.other, 1, 8, [.nilFunc], none⟩) (.node (some ⟨.other, 1, 8, [.nilFunc], none⟩) .leaf .leaf) .leaf) (.node (some ⟨.slice 35, 1, 24, [.slice none 0 0], some (.sl 8 I)⟩) (.node (some ⟨.other, 1, 8, [.pointer none], none⟩) .leaf .leaf) .leaf))) (.node (some ⟨.slice 50, 1, 24, [.slice none 0 0], some (.sl 136 qaa)⟩) (.node (some ⟨.slice 2, 1, 24, [.slice none 0 0], some (.sl 8 I)⟩) (.node (some ⟨.other, 1, 8, [.nilFunc], none⟩) (.node (some ⟨.other, 1, 8, [.nilFunc], none⟩) .leaf .leaf) .leaf) (.node (some ⟨.struct [⟨0, 1, false⟩, ⟨1, 1, false⟩, ⟨2, 1, false⟩, ⟨3, 1, false⟩], 4, 32, [.int .i64 0, .int .i64 0, .int .i64 0, .int .i64 0], some qak⟩) (.node (some ⟨.int .u8, 1, 1, [.int .u8 0], some (.int .u8)⟩) .leaf .leaf) .leaf)) (.node (some ⟨.other, 1, 8, [.nilFunc], none⟩) (.node (some ⟨.other, 1, 8, [.nilFunc], none⟩) (.node (some ⟨.arr 65 5, 65, 65, [.int .u8 0, .int .u8 0, .int .u8 0, .int .u8 0, .int .u8 0, .int .u8 0, .int .u8 0, .int .u8 0, .int .u8 0, .int .u8 0, .int .u8 0, .int .u8 0, .int .u8 0, .int .u8 0, .int .u8 0, .int .u8 0, .int .u8 0, .int .u8 0, .int .u8 0, .int .u8 0, .int .u8 0, .int .u8 0, .int .u8 0, .int .u8 0, .int .u8 0, .int .u8 0, .int .u8 0, .int .u8 0, .int .u8 0, .int .u8 0, .int .u8 0, .int .u8 0, .int .u8 0, .int .u8 0, .int .u8 0, .int .u8 0, .int .u8 0, .int .u8 0, .int .u8 0, .int .u8 0, .int .u8 0, .int .u8 0, .int .u8 0, .int .u8 0, .int .u8 0, .int .u8 0, .int .u8 0, .int .u8 0, .int .u8 0, .int .u8 0, .int .u8 0, .int .u8 0, .int .u8 0, .int .u8 0, .int .u8 0, .int .u8 0, .int .u8 0, .int .u8 0, .int .u8 0, .int .u8 0, .int .u8 0, .int .u8 0, .int .u8 0, .int .u8 0, .int .u8 0], some (.arr 65 (.int .u8))⟩) .leaf .leaf) .leaf) (.node (some ⟨.other, 1, 8, [.nilFunc], none⟩) .leaf .leaf)))))) (.node (some ⟨.int .i64, 1, 8, [.int .i64 0], some I⟩) (.node (some ⟨.bool, 1, 1, [.bool false], some .bool⟩) (.node (some ⟨.struct [⟨0, 1, false⟩, ⟨1, 1, false⟩, ⟨2, 1, false⟩, ⟨3, 1, false⟩], 4, 24, [.int .i64 0, .int .i64 0, .bool false, .int .u8 0], some s_runtime_boundsError⟩) (.node (some ⟨.ptr 171, 1, 8, [.pointer none], none⟩) (.node (some ⟨.other, 1, 8, [.nilFunc], none⟩) (.node (some ⟨.other, 1, 8, [.nilFunc], none⟩) (.node none .leaf .leaf) .leaf) (.node (some ⟨.other, 1, 8, [.nilFunc], none⟩) (.node (some ⟨.other, 1, 8, [.nilFunc], none⟩) .leaf .leaf) .leaf)) (.node (some ⟨.struct [⟨0, 1, false⟩, ⟨1, 1, false⟩, ⟨2, 1, false⟩, ⟨3, 1, false⟩, ⟨4, 1, false⟩], 5, 88, [.int .i64 0, .slice none 0 0, .slice none 0 0, .slice none 0 0, .int .i64 0], some qai⟩) (.node (some ⟨.other, 1, 8, [.nilFunc], none⟩) (.node (some ⟨.int .u64, 1, 8, [.int .u64 0], some (.int .u64)⟩) .leaf .leaf) .leaf) (.node (some ⟨.other, 1, 8, [.nilFunc], none⟩) (.node (some ⟨.ptr 5, 1, 8, [.pointer none], some (.ptr (.int .u8))⟩) .leaf .leaf) .leaf))) (.node (some ⟨.struct [⟨0, 1, false⟩, ⟨1, 1, false⟩], 2, 48, [.slice none 0 0, .slice none 0 0], some qad⟩) (.node (some ⟨.other, 1, 8, [.nilFunc], none⟩) (.node (some ⟨.other, 1, 8, [.nilFunc], none⟩) (.node (some ⟨.other, 1, 8, [.nilFunc], none⟩) .leaf .leaf) .leaf) (.node (some ⟨.other, 1, 8, [.nilFunc], none⟩) (.node (some ⟨.struct [⟨0, 1, false⟩, ⟨1, 1, false⟩, ⟨2, 1, false⟩, ⟨3, 1, false⟩], 4, 40, [.pointer none, .pointer none, .pointer none, .string ⟨#[]⟩], none⟩) .leaf .leaf) .leaf)) (.node (some ⟨.other, 1, 8, [.nilFunc], none⟩) (.node (some ⟨.other, 1, 8, [.nilFunc], none⟩) (.node (some ⟨.other, 1, 8, [.nilFunc], none⟩) .leaf .leaf) .leaf) (.node (some ⟨.other, 1, 8, [.nilFunc], none⟩) .leaf .leaf)))) (.node (some ⟨.int .u64, 1, 8, [.int .u64 0], some (.int .u64)⟩) (.node (some ⟨.other, 1, 16, [.nilIface], none⟩) (.node (some ⟨.other, 1, 8, [.nilFunc], none⟩) (.node (some ⟨.struct [⟨0, 2, true⟩, ⟨2, 7, true⟩], 9, 160, [.slice none 0 0, .slice none 0 0, .string ⟨#[]⟩, .slice none 0 0, .int .i64 0, .slice none 0 0, .int .i64 0, .int .i64 0, .slice none 0 0], some qah⟩) (.node (some ⟨.other, 1, 8, [.nilFunc], none⟩) .leaf .leaf) .leaf) (.node (some ⟨.other, 1, 8, [.nilFunc], none⟩) (.node (some ⟨.arr 32 5, 32, 32, [.int .u8 0, .int .u8 0, .int .u8 0, .int .u8 0, .int .u8 0, .int .u8 0, .int .u8 0, .int .u8 0, .int .u8 0, .int .u8 0, .int .u8 0, .int .u8 0, .int .u8 0, .int .u8 0, .int .u8 0, .int .u8 0, .int .u8 0, .int .u8 0, .int .u8 0, .int .u8 0, .int .u8 0, .int .u8 0, .int .u8 0, .int .u8 0, .int .u8 0, .int .u8 0, .int .u8 0, .int .u8 0, .int .u8 0, .int .u8 0, .int .u8 0, .int .u8 0], some (.arr 32 (.int .u8))⟩) .leaf .leaf) .leaf)) (.node (some ⟨.struct [⟨0, 1, false⟩, ⟨1, 1, false⟩, ⟨2, 1, false⟩, ⟨3, 1, false⟩, ⟨4, 1, false⟩, ⟨5, 1, false⟩, ⟨6, 1, false⟩, ⟨7, 1, false⟩], 8, 80, [.int .i64 0, .int .i64 0, .int .i64 0, .slice none 0 0, .int .i64 0, .int .i64 0, .int .i64 0, .bool false], some qac⟩) (.node (some ⟨.other, 1, 8, [.nilFunc], none⟩) (.node none .leaf .leaf) .leaf) (.node (some ⟨.other, 1, 8, [.nilFunc], none⟩) (.node (some ⟨.struct [⟨0, 1, false⟩, ⟨1, 1, false⟩, ⟨2, 1, false⟩, ⟨3, 1, false⟩, ⟨4, 1, false⟩, ⟨5, 1, false⟩, ⟨6, 1, false⟩, ⟨7, 1, false⟩, ⟨8, 1, false⟩, ⟨9, 1, false⟩, ⟨10, 1, false⟩], 11, 48, [.int .u64 0, .int .u64 0, .int .u32 0, .int .u8 0, .int .u8 0, .int .u8 0, .int .u8 0, .nilFunc, .pointer none, .int .i32 0, .int .i32 0], none⟩) .leaf .leaf) .leaf))) (.node (some ⟨.slice 27, 1, 24, [.slice none 0 0], some (.sl 8 I)⟩) (.node (some ⟨.slice 53, 1, 24, [.slice none 0 0], some (.sl 80 qac)⟩) (.node (some ⟨.arr 42 3, 42, 336, [.int .i64 0, .int .i64 0, .int .i64 0, .int .i64 0, .int .i64 0, .int .i64 0, .int .i64 0, .int .i64 0, .int .i64 0, .int .i64 0, .int .i64 0, .int .i64 0, .int .i64 0, .int .i64 0, .int .i64 0, .int .i64 0, .int .i64 0, .int .i64 0, .int .i64 0, .int .i64 0, .int .i64 0, .int .i64 0, .int .i64 0, .int .i64 0, .int .i64 0, .int .i64 0, .int .i64 0, .int .i64 0, .int .i64 0, .int .i64 0, .int .i64 0, .int .i64 0, .int .i64 0, .int .i64 0, .int .i64 0, .int .i64 0, .int .i64 0, .int .i64 0, .int .i64 0, .int .i64 0, .int .i64 0, .int .i64 0], some (.arr 42 I)⟩) (.node (some ⟨.other, 1, 8, [.nilFunc], none⟩) .leaf .leaf) .leaf) (.node (some ⟨.struct [⟨0, 1, false⟩, ⟨1, 1, false⟩, ⟨2, 1, false⟩, ⟨3, 1, false⟩], 4, 32, [.int .i64 0, .int .i64 0, .int .i64 0, .int .i64 0], some qak⟩) (.node (some ⟨.other, 1, 8, [.nilFunc], none⟩) .leaf .leaf) .leaf)) (.node (some ⟨.struct [⟨0, 1, false⟩, ⟨1, 1, false⟩, ⟨2, 1, false⟩], 3, 40, [.int .i64 0, .int .i64 0, .slice none 0 0], some qao⟩) (.node (some ⟨.other, 1, 8, [.nilFunc], none⟩) (.node (some ⟨.int .u32, 1, 4, [.int .u32 0], some (.int .u32)⟩) .leaf .leaf) .leaf) (.node (some ⟨.other, 1, 8, [.nilFunc], none⟩) .leaf .leaf))))) (.node (some ⟨.int .u8, 1, 1, [.int .u8 0], some (.int .u8)⟩) (.node (some ⟨.str, 1, 16, [.string ⟨#[]⟩], some .str⟩) (.node (some ⟨.struct [⟨0, 1, false⟩], 1, 8, [.pointer none], none⟩) (.node (some ⟨.other, 1, 8, [.nilFunc], none⟩) (.node (some ⟨.other, 1, 8, [.nilFunc], none⟩) (.node (some ⟨.other, 1, 8, [.nilFunc], none⟩) .leaf .leaf) .leaf) (.node (some ⟨.other, 1, 8, [.nilFunc], none⟩) (.node (some ⟨.other, 1, 8, [.nilFunc], none⟩) .leaf .leaf) .leaf)) (.node (some ⟨.struct [⟨0, 1, false⟩, ⟨1, 1, false⟩, ⟨2, 5, true⟩], 7, 136, [.slice none 0 0, .slice none 0 0, .int .i64 0, .slice none 0 0, .slice none 0 0, .slice none 0 0, .int .i64 0], some qaa⟩) (.node (some ⟨.other, 1, 8, [.nilFunc], none⟩) (.node (some ⟨.other, 1, 8, [.nilFunc], none⟩) .leaf .leaf) .leaf) (.node (some ⟨.other, 1, 8, [.nilFunc], none⟩) (.node (some ⟨.int .i32, 1, 4, [.int .i32 0], some (.int .i32)⟩) .leaf .leaf) .leaf))) (.node (some ⟨.slice 3, 1, 24, [.slice none 0 0], some (.sl 8 I)⟩) (.node (some ⟨.struct [⟨0, 1, false⟩, ⟨1, 1, false⟩, ⟨2, 1, false⟩, ⟨3, 1, false⟩, ⟨4, 1, false⟩], 5, 96, [.string ⟨#[]⟩, .slice none 0 0, .int .i64 0, .slice none 0 0, .slice none 0 0], some qab⟩) (.node (some ⟨.other, 1, 8, [.nilFunc], none⟩) (.node (some ⟨.other, 1, 8, [.nilFunc], none⟩) .leaf .leaf) .leaf) (.node (some ⟨.struct [⟨0, 5, true⟩], 5, 40, [.int .i64 0, .int .i64 0, .int .i64 0, .int .i64 0, .int .i64 0], some s_verify_failure⟩) (.node (some ⟨.struct [⟨0, 0, true⟩], 0, 0, [], none⟩) .leaf .leaf) .leaf)) (.node (some ⟨.struct [⟨0, 1, false⟩, ⟨1, 1, false⟩, ⟨2, 1, false⟩, ⟨3, 1, false⟩, ⟨4, 1, false⟩], 5, 64, [.string ⟨#[]⟩, .int .i64 0, .int .i64 0, .slice none 0 0, .bool false], some qaf⟩) (.node (some ⟨.other, 1, 8, [.nilFunc], none⟩) (.node (some ⟨.other, 1, 8, [.nilFunc], none⟩) .leaf .leaf) .leaf) (.node (some ⟨.struct [⟨0, 1, false⟩, ⟨1, 1, false⟩], 2, 24, [.string ⟨#[]⟩, .int .i64 0], some qaq⟩) .leaf .leaf)))) (.node (some ⟨.struct [⟨0, 1, false⟩, ⟨1, 1, false⟩], 2, 24, [.string ⟨#[]⟩, .int .u64 0], some qfn⟩) (.node (some ⟨.slice 58, 1, 24, [.slice none 0 0], some (.sl 64 qaf)⟩) (.node (some ⟨.struct [⟨0, 1, false⟩, ⟨1, 1, false⟩, ⟨2, 1, false⟩, ⟨3, 1, false⟩, ⟨4, 1, false⟩], 5, 40, [.int .i64 0, .int .i64 0, .int .i64 0, .int .i64 0, .int .i64 0], some qaj⟩) (.node (some ⟨.other, 1, 8, [.nilFunc], none⟩) (.node (some ⟨.other, 1, 8, [.nilFunc], none⟩) .leaf .leaf) .leaf) (.node (some ⟨.other, 1, 8, [.nilFunc], none⟩) (.node (some ⟨.other, 1, 8, [.nilFunc], none⟩) .leaf .leaf) .leaf)) (.node (some ⟨.struct [⟨0, 1, false⟩, ⟨1, 1, false⟩], 2, 32, [.int .i64 0, .slice none 0 0], some qae⟩) (.node (some ⟨.other, 1, 8, [.nilFunc], none⟩) (.node (some ⟨.other, 1, 8, [.nilFunc], none⟩) .leaf .leaf) .leaf) (.node (some ⟨.other, 1, 8, [.nilFunc], none⟩) .leaf .leaf))) (.node (some ⟨.struct [⟨0, 1, false⟩, ⟨1, 1, false⟩, ⟨2, 1, false⟩, ⟨3, 1, false⟩, ⟨4, 1, false⟩, ⟨5, 1, false⟩, ⟨6, 1, false⟩], 7, 112, [.string ⟨#[]⟩, .slice none 0 0, .int .i64 0, .slice none 0 0, .int .i64 0, .int .i64 0, .slice none 0 0], some qan⟩) (.node (some ⟨.slice 55, 1, 24, [.slice none 0 0], some (.sl 32 qae)⟩) (.node (some ⟨.other, 1, 8, [.nilFunc], none⟩) (.node (some ⟨.other, 1, 8, [.nilFunc], none⟩) .leaf .leaf) .leaf) (.node (some ⟨.other, 1, 8, [.nilFunc], none⟩) (.node (some ⟨.int .u8, 1, 1, [.int .u8 0], some (.int .u8)⟩) .leaf .leaf) .leaf)) (.node none (.node (some ⟨.other, 1, 8, [.nilFunc], none⟩) (.node (some ⟨.int .u64, 1, 8, [.int .u64 0], some (.int .u64)⟩) .leaf .leaf) .leaf) (.node (some ⟨.other, 1, 8, [.nilFunc], none⟩) .leaf .leaf)))))))
def gl : Nat → Option AV
 | 1 => some (.rtp (.arr 5 I) ((0 : Int), (1 : Int), (8 : Int), (32 : Int), (64 : Int), ()))
 | _ => none
def fnL : List Nat := [4, 5, 7, 8, 10, 11, 12, 13, 14, 15, 16, 17, 18, 19, 20, 24, 25, 26, 27, 28, 29, 30, 31, 32, 33, 34, 35, 36, 37, 38, 39, 40, 41, 42, 43, 44, 45, 46, 47, 48, 49, 50, 51, 55, 60, 61, 62, 63, 64, 65, 66, 67, 68, 69, 70, 71, 72, 73, 74, 75, 76, 77, 78, 79, 80, 81, 82, 83, 84, 85, 86, 87, 88, 89, 90, 91, 92, 93, 95, 96, 97, 98, 99, 100, 101, 102, 103, 104, 105, 106, 107, 108, 109, 110, 111, 112, 113, 114, 115, 116, 117, 118, 119, 120, 121, 122, 123, 124, 125, 126, 127, 128, 129, 130, 131, 132, 133, 134, 135, 136, 137, 138, 139, 140, 141, 142]
abbrev qbd : FuncId := 4
abbrev qax : FuncId := 5
abbrev f_law50_works : FuncId := 7
abbrev qcl : FuncId := 8
abbrev qgj : FuncId := 10
abbrev qbp : FuncId := 11
abbrev qeu : FuncId := 12
abbrev f_law50_empty : FuncId := 13
abbrev qbu : FuncId := 14
abbrev qet : FuncId := 15
abbrev qgh : FuncId := 17
abbrev qbc : FuncId := 18
abbrev qck : FuncId := 19
abbrev qat : FuncId := 20
abbrev qex : FuncId := 24
abbrev qeq : FuncId := 25
abbrev qcd : FuncId := 26
abbrev qfh : FuncId := 27
abbrev qes : FuncId := 28
abbrev qdy : FuncId := 29
abbrev qhl : FuncId := 30
abbrev qhq : FuncId := 33
abbrev f_verify_first : FuncId := 34
abbrev qau : FuncId := 35
abbrev qcb : FuncId := 36
abbrev qbh : FuncId := 37
abbrev qch : FuncId := 38
abbrev qdk : FuncId := 39
abbrev qfi : FuncId := 40
abbrev qfj : FuncId := 41
abbrev qbr : FuncId := 42
abbrev qbo : FuncId := 43
abbrev f_opcode_Name : FuncId := 44
abbrev qbv : FuncId := 45
abbrev qcp : FuncId := 46
abbrev qdx : FuncId := 47
abbrev qbs : FuncId := 48
abbrev qcj : FuncId := 49
abbrev qbw : FuncId := 50
abbrev qbj : FuncId := 51
abbrev qey : FuncId := 55
abbrev f_r14_diag : FuncId := 60
abbrev qdr : FuncId := 61
abbrev qci : FuncId := 62
abbrev qgi : FuncId := 63
abbrev qcc : FuncId := 64
abbrev qbl : FuncId := 67
abbrev qdi : FuncId := 69
abbrev qbe : FuncId := 70
abbrev qgg : FuncId := 71
abbrev qff : FuncId := 72
abbrev qgf : FuncId := 73
abbrev qdh : FuncId := 74
abbrev qav : FuncId := 75
abbrev qbf : FuncId := 76
abbrev f_opcode_rows : FuncId := 77
abbrev qbb : FuncId := 78
abbrev qgo : FuncId := 79
abbrev qgk : FuncId := 80
abbrev qhp : FuncId := 81
abbrev qhn : FuncId := 82
abbrev qgl : FuncId := 83
abbrev qds : FuncId := 84
abbrev qgp : FuncId := 85
abbrev qbt : FuncId := 86
abbrev f_intn_Wrap : FuncId := 87
abbrev qbg : FuncId := 88
abbrev f_r12_count : FuncId := 89
abbrev f_r12_result : FuncId := 90
abbrev f_r12_operand : FuncId := 91
abbrev f_r12_Access : FuncId := 92
abbrev f_r01_Wrap : FuncId := 93
abbrev f_r14_ident : FuncId := 95
abbrev f_r14_cell : FuncId := 96
abbrev f_r14_fits : FuncId := 97
abbrev f_r14_value : FuncId := 98
abbrev f_r14_reg : FuncId := 99
abbrev f_r14_shape : FuncId := 100
abbrev f_r14_typed : FuncId := 101
abbrev qie : FuncId := 102
abbrev f_r14_edge : FuncId := 103
abbrev qfr : FuncId := 105
abbrev qfk : FuncId := 107
abbrev qdl : FuncId := 108
abbrev f_intn_Bits : FuncId := 109
abbrev qep : FuncId := 110
abbrev qbn : FuncId := 111
abbrev qhk : FuncId := 112
abbrev qfe : FuncId := 113
abbrev qbi : FuncId := 114
abbrev qho : FuncId := 115
abbrev qfg : FuncId := 116
abbrev qez : FuncId := 117
abbrev qgm : FuncId := 118
abbrev qer : FuncId := 119
abbrev qgn : FuncId := 120
abbrev qdj : FuncId := 121
abbrev qaz : FuncId := 122
abbrev f_r12_Integer : FuncId := 123
abbrev f_r12_Any : FuncId := 124
abbrev f_r12_Wide : FuncId := 125
abbrev f_r01_Bits : FuncId := 126
abbrev qhm : FuncId := 127
abbrev f_r13_IsIdent : FuncId := 128
abbrev f_r14_isInt : FuncId := 129
abbrev f_lexer_word : FuncId := 135
abbrev f_lexer_digit : FuncId := 136
abbrev f_r13_letter : FuncId := 137
abbrev f_r13_end : FuncId := 138
abbrev qhr : FuncId := 141
abbrev f_r13_digit : FuncId := 142
def siteTr : Tr (List (Nat × Nat)) := (.node none (.node none (.node none (.node none (.node (some [(2, 1)]) (.node none (.node (some [(2, 1)]) .leaf .leaf) .leaf) (.node (some [(3, 1), (4, 1), (5, 1)]) (.node (some [(1, 1)]) .leaf .leaf) .leaf)) (.node none (.node none .leaf (.node (some [(2, 1), (3, 1)]) .leaf .leaf)) (.node (some [(3, 1), (4, 1), (5, 1)]) .leaf .leaf))) (.node (some [(1, 1), (52, 11), (53, 11), (90, 11), (91, 11), (98, 12), (99, 12)]) (.node (some [(2, 1), (3, 1)]) (.node none (.node (some [(2, 2)]) .leaf .leaf) (.node (some [(2, 1)]) .leaf .leaf)) (.node (some [(2, 1), (3, 1)]) (.node (some [(2, 1), (3, 1)]) .leaf .leaf) .leaf)) (.node none (.node none (.node (some [(4, 1), (5, 1), (6, 1), (7, 1)]) .leaf .leaf) (.node (some [(12, 2)]) .leaf .leaf)) (.node none (.node (some [(5, 1), (6, 1)]) .leaf .leaf) .leaf)))) (.node (some [(1, 1)]) (.node none (.node (some [(1, 1), (2, 2)]) .leaf (.node (some [(2, 1), (3, 1)]) (.node (some [(2, 1), (3, 1)]) .leaf .leaf) (.node (some [(5, 1), (6, 1), (7, 1)]) .leaf .leaf))) (.node (some [(2, 1), (4, 2)]) .leaf (.node none (.node (some [(2, 1), (3, 1)]) .leaf .leaf) (.node (some [(3, 1), (5, 1)]) .leaf .leaf)))) (.node none (.node none (.node (some [(5, 2)]) .leaf (.node (some [(5, 1), (6, 1), (7, 1)]) .leaf .leaf)) .leaf) (.node none (.node (some [(1, 1)]) .leaf .leaf) (.node (some [(2, 1)]) .leaf .leaf))))) (.node none (.node (some [(2, 1), (10, 2)]) (.node (some [(2, 1), (3, 1)]) (.node (some [(1, 1)]) (.node none (.node (some [(3, 1), (4, 1), (5, 1)]) .leaf .leaf) .leaf) (.node (some [(2, 1), (3, 1)]) (.node (some [(2, 1), (3, 1)]) .leaf .leaf) (.node (some [(3, 1), (4, 1), (5, 1)]) .leaf .leaf))) (.node (some [(1, 1), (2, 2)]) .leaf .leaf)) (.node (some [(1, 0)]) (.node (some [(2, 1), (3, 1)]) (.node (some [(5, 2)]) (.node (some [(3, 1)]) .leaf .leaf) (.node (some [(3, 1), (4, 1), (5, 1)]) .leaf .leaf)) (.node none (.node (some [(2, 1)]) .leaf .leaf) .leaf)) (.node none .leaf (.node (some [(10, 2)]) .leaf .leaf)))) (.node none (.node (some [(1, 1), (2, 2), (3, 2)]) (.node (some [(1, 1)]) (.node (some [(2, 2)]) (.node (some [(5, 2)]) .leaf .leaf) .leaf) (.node (some [(3, 1), (4, 1)]) (.node (some [(3, 1), (5, 1)]) .leaf .leaf) .leaf)) (.node (some [(0, 2), (1, 2)]) (.node (some [(2, 1)]) (.node (some [(3, 1), (4, 1)]) .leaf .leaf) .leaf) (.node none (.node (some [(2, 1), (3, 1)]) .leaf .leaf) .leaf))) (.node (some [(1, 1)]) (.node none (.node (some [(2, 1), (5, 2), (11, 2)]) .leaf (.node (some [(2, 1), (3, 1)]) .leaf .leaf)) (.node none (.node (some [(2, 1), (3, 1)]) .leaf .leaf) .leaf)) (.node none (.node (some [(2, 1), (3, 1)]) (.node (some [(2, 1)]) .leaf .leaf) (.node (some [(2, 1)]) .leaf .leaf)) (.node (some [(2, 1)]) .leaf .leaf))))))
noncomputable def ctx (l : List (FuncId × FSpec)) : Ctx := { P := Tryz.prog, ty := tyOf tyN tyTr, gl := gl, env := envOf l, fns := fnsOf fnL, pans := fnsOf [35, 36, 37, 38, 68, 74, 75], site := siteOf siteTr }
theorem ty_ok : TyOK Tryz.prog (tyOf tyN tyTr) := chkTy_ok (by kernel_rfl)
theorem fns_ok (l : List (FuncId × FSpec)) : FnsOK (ctx l) := chkFns_ok (by kernel_rfl)
theorem qbq {l : List (FuncId × FSpec)} (h : ∀ x ∈ l, qal (ctx []) x.1 x.2) : EOK (ctx l) := ⟨ty_ok, envOK_of rfl h, fns_ok l, by kernel_rfl⟩
theorem E0_ok : EOK (ctx []) := qbq (by simp)
end Burn.MTT
namespace Burn.MTT
open Go Go.BE Go.Proofs
set_option maxRecDepth 100000
set_option linter.unusedVariables false
set_option linter.unusedSimpArgs false
open Burn.Intn Burn.Ref
noncomputable abbrev E_A1 : Ctx := ctx []
theorem E_A1_ok : EOK E_A1 := E0_ok
def cuts_A1 : CutL := []
def rets_A1 : FuncId → List (Option Fx)
 | _ => []
def H_A1 : Hints := { cut := cutOf cuts_A1, ret := rets_A1 }
theorem r01_Bits_t (t : Int) : run E_A1 H_A1 f_r01_Bits 3000 (start E_A1 f_r01_Bits [(vi t)]) = (cond (t == (1 : Int)) (rt (vi (1 : Int)) []) (cond (t == (2 : Int)) (rt (vi (8 : Int)) []) (cond (t == (3 : Int)) (rt (vi (32 : Int)) []) (cond (t == (4 : Int)) (rt (vi (64 : Int)) []) (rt (vi (0 : Int)) []))))) := by kernel_rfl
theorem intn_Bits_t (t : Int) : run E_A1 H_A1 f_intn_Bits 3000 (start E_A1 f_intn_Bits [(vi t)]) = (cond (decide (t < (0 : Int))) (rt (vi (0 : Int)) []) (cond (decide (t ≥ (5 : Int))) (rt (vi (0 : Int)) []) (.chk (0 ≤ t ∧ t < (5 : Nat)) (rt (vi (z (vget (dz I) 5 (((0 : Int), (1 : Int), (8 : Int), (32 : Int), (64 : Int), ())) t.toNat))) [])))) := by kernel_rfl

def k_r01_Bits : Con := con [.d I] I (fun x => True) fun x => bitsZ x.1
theorem m_r01_Bits (t : Int) (h_t : okD I t) (hp : True) : Runs E_A1 (start E_A1 f_r01_Bits [(vi t)]) (fun r_ h_ => r_ = (vi (bitsZ t)) ∧ h_ = []) := .tree E_A1_ok (r01_Bits_t t) (by
 simp only [sS,  bitsZ]
 grind)
theorem c_r01_Bits : qal E_A1 f_r01_Bits k_r01_Bits.spec := qam fun x hx hp => ⟨rfl, m_r01_Bits x.1 hx.1 hp⟩

def k_intn_Bits : Con := con [.d I] I (fun x => True) fun x => bitsZ x.1
theorem m_intn_Bits (t : Int) (h_t : okD I t) (hp : True) : Runs E_A1 (start E_A1 f_intn_Bits [(vi t)]) (fun r_ h_ => r_ = (vi (bitsZ t)) ∧ h_ = []) := .tree E_A1_ok (intn_Bits_t t) (by
 simp only [sS,  bitsZ, z]
 refine ⟨by grind, fun h1 => ⟨by grind, fun h2 => ⟨by grind, fun h3 => ?_⟩⟩⟩
 have : t = 0 ∨ t = 1 ∨ t = 2 ∨ t = 3 ∨ t = 4 := by omega
 rcases this with rfl | rfl | rfl | rfl | rfl <;> rfl)
theorem c_intn_Bits : qal E_A1 f_intn_Bits k_intn_Bits.spec := qam fun x hx hp => ⟨rfl, m_intn_Bits x.1 hx.1 hp⟩
def L_A1 : List (FuncId × FSpec) := [(f_r01_Bits, k_r01_Bits.spec), (f_intn_Bits, k_intn_Bits.spec)] ++ []
theorem L_A1_ok : ∀ x ∈ L_A1, qal (ctx []) x.1 x.2 := by
 unfold L_A1
 simp only [List.cons_append, List.nil_append, List.forall_mem_cons]
 exact ⟨c_r01_Bits, c_intn_Bits, by simp⟩
end Burn.MTT
namespace Burn.MTT
open Go Go.BE Go.Proofs
set_option maxRecDepth 100000
set_option linter.unusedVariables false
set_option linter.unusedSimpArgs false
open Burn.Intn Burn.Ref
noncomputable abbrev E_A2 : Ctx := ctx L_A1
theorem E_A2_ok : EOK E_A2 := qbq L_A1_ok
def cuts_A2 : CutL := []
def rets_A2 : FuncId → List (Option Fx)
 | _ => []
def H_A2 : Hints := { cut := cutOf cuts_A2, ret := rets_A2 }
theorem intn_Wrap_t (t : Int) (n : Int) : run E_A2 H_A2 f_intn_Wrap 3000 (start E_A2 f_intn_Wrap [(vi t), (vi n)]) = (.chk (True) (.know (okD (.int .i64) (bitsZ t)) (cond ((bitsZ t) == (0 : Int)) (rt (vi (0 : Int)) []) (cond ((bitsZ t) == (1 : Int)) (rt (vi (IntKind.wrap .i64 (bvand .i64 n (1 : Int)))) []) (.chk (0 ≤ (IntKind.wrap .i64 ((64 : Int) - (bitsZ t)))) (.chk (0 ≤ (IntKind.wrap .i64 ((64 : Int) - (bitsZ t)))) (rt (vi (Int.fdiv (IntKind.wrap .i64 (n * 2 ^ min ((IntKind.wrap .i64 ((64 : Int) - (bitsZ t)))).toNat (IntKind.bits .i64))) (2 ^ min ((IntKind.wrap .i64 ((64 : Int) - (bitsZ t)))).toNat (IntKind.bits .i64)))) []))))))) := by kernel_rfl
theorem r01_Unsigned_t (t : Int) (n : Int) : run E_A2 H_A2 qhm 3000 (start E_A2 qhm [(vi t), (vi n)]) = (.chk (True) (.know (okD (.int .i64) (bitsZ t)) (cond ((bitsZ t) == (1 : Int)) (.chk ((2 : Int) ≠ 0) (rt (aint .u64 (Int.tmod (IntKind.wrap .u64 n) (2 : Int))) [])) (cond ((bitsZ t) == (8 : Int)) (.chk ((256 : Int) ≠ 0) (rt (aint .u64 (Int.tmod (IntKind.wrap .u64 n) (256 : Int))) [])) (cond ((bitsZ t) == (32 : Int)) (.chk ((4294967296 : Int) ≠ 0) (rt (aint .u64 (Int.tmod (IntKind.wrap .u64 n) (4294967296 : Int))) [])) (cond ((bitsZ t) == (64 : Int)) (rt (aint .u64 (IntKind.wrap .u64 n)) []) (rt (aint .u64 (0 : Int)) []))))))) := by kernel_rfl
theorem b1 : bitsZ 1 = 1 := rfl
theorem b2 : bitsZ 2 = 8 := rfl
theorem b3 : bitsZ 3 = 32 := rfl
theorem b4 : bitsZ 4 = 64 := rfl
theorem u1 (n : Int) : unsZ 1 n = n % 2 := rfl
theorem u2 (n : Int) : unsZ 2 n = n % 256 := rfl
theorem u3 (n : Int) : unsZ 3 n = n % 4294967296 := rfl
theorem u4 (n : Int) : unsZ 4 n = n % 18446744073709551616 := rfl
theorem tmod_pos (n m : Int) (hm : 0 < m) : (n % 18446744073709551616).tmod m = n % 18446744073709551616 % m := by
 rw [Int.tmod_eq_emod_of_nonneg (Int.emod_nonneg _ (by decide))]

def k_intn_Wrap : Con := con [.d I, .d I] I (fun x => True) fun x => wrapZ x.1 x.2.1
theorem m_intn_Wrap (t : Int) (n : Int) (h_t : okD I t) (h_n : okD I n) (hp : True) : Runs E_A2 (start E_A2 f_intn_Wrap [(vi t), (vi n)]) (fun r_ h_ => r_ = (vi (wrapZ t n)) ∧ h_ = []) := .tree E_A2_ok (intn_Wrap_t t n) (by
 simp only [sS,  z]
 rcases tcases t with rfl | rfl | rfl | rfl | h
 ·have := and1 n
  rw [← wrap1] at this
  exact fun _ => ⟨fun h => absurd h (by decide), fun _ => ⟨fun _ => by rw [this], fun h => absurd h (by decide)⟩⟩
 ·have := sh n 56 (.inl rfl)
  simp [b2, w64] at this ⊢
  exact fun _ => this
 ·have := sh n 32 (.inr (.inl rfl))
  simp [b3, w64] at this ⊢
  exact fun _ => this
 ·have := sh n 0 (.inr (.inr rfl))
  simp [b4, w64] at this ⊢
  exact fun _ => this
 ·simp [other h, wrap_other h])
theorem c_intn_Wrap : qal E_A2 f_intn_Wrap k_intn_Wrap.spec := qam fun x hx hp => ⟨rfl, m_intn_Wrap x.1 x.2.1 hx.1 hx.2.1 hp⟩

def k_r01_Unsigned : Con := con [.d I, .d I] (.int .u64) (fun x => True) fun x => unsZ x.1 x.2.1
theorem m_r01_Unsigned (t : Int) (n : Int) (h_t : okD I t) (h_n : okD I n) (hp : True) : Runs E_A2 (start E_A2 qhm [(vi t), (vi n)]) (fun r_ h_ => r_ = (aint .u64 (unsZ t n)) ∧ h_ = []) := .tree E_A2_ok (r01_Unsigned_t t n) (by
 simp only [sS,  z]
 rcases tcases t with rfl | rfl | rfl | rfl | h
 ·simp [b1, u1, u64, tmod_pos]
 ·simp [b2, u2, u64, tmod_pos]
 ·simp [b3, u3, u64, tmod_pos]
 ·simp [b4, u4, u64]
 ·simp [other h, uns_other h])
theorem c_r01_Unsigned : qal E_A2 qhm k_r01_Unsigned.spec := qam fun x hx hp => ⟨rfl, m_r01_Unsigned x.1 x.2.1 hx.1 hx.2.1 hp⟩
def L_A2 : List (FuncId × FSpec) := [(f_intn_Wrap, k_intn_Wrap.spec), (qhm, k_r01_Unsigned.spec)] ++ L_A1
theorem L_A2_ok : ∀ x ∈ L_A2, qal (ctx []) x.1 x.2 := by
 unfold L_A2
 simp only [List.cons_append, List.nil_append, List.forall_mem_cons]
 exact ⟨c_intn_Wrap, c_r01_Unsigned, L_A1_ok⟩
end Burn.MTT
namespace Burn.MTT
open Go Go.BE Go.Proofs
set_option maxRecDepth 100000
set_option linter.unusedVariables false
set_option linter.unusedSimpArgs false
open Burn.Intn Burn.Ref
noncomputable abbrev E_A3 : Ctx := ctx L_A2
theorem E_A3_ok : EOK E_A3 := qbq L_A2_ok
def cuts_A3 : CutL := []
def rets_A3 : FuncId → List (Option Fx)
 | _ => []
def H_A3 : Hints := { cut := cutOf cuts_A3, ret := rets_A3 }
theorem r01_Wrap_t (t : Int) (n : Int) : run E_A3 H_A3 f_r01_Wrap 3000 (start E_A3 f_r01_Wrap [(vi t), (vi n)]) = (.chk (True) (.know (okD (.int .u64) (unsZ t n)) (.chk (True) (.know (okD (.int .i64) (bitsZ t)) (cond ((bitsZ t) == (8 : Int)) (cond (decide ((unsZ t n) ≥ (128 : Int))) (rt (vi (IntKind.wrap .i64 ((IntKind.wrap .i64 (unsZ t n)) - (256 : Int)))) []) (rt (vi (IntKind.wrap .i64 (unsZ t n))) [])) (cond ((bitsZ t) == (32 : Int)) (cond (decide ((unsZ t n) ≥ (2147483648 : Int))) (rt (vi (IntKind.wrap .i64 ((IntKind.wrap .i64 (unsZ t n)) - (4294967296 : Int)))) []) (rt (vi (IntKind.wrap .i64 (unsZ t n))) [])) (rt (vi (IntKind.wrap .i64 (unsZ t n))) []))))))) := by kernel_rfl

def k_r01_Wrap : Con := con [.d I, .d I] I (fun x => True) fun x => wrapZ x.1 x.2.1
theorem m_r01_Wrap (t : Int) (n : Int) (h_t : okD I t) (h_n : okD I n) (hp : True) : Runs E_A3 (start E_A3 f_r01_Wrap [(vi t), (vi n)]) (fun r_ h_ => r_ = (vi (wrapZ t n)) ∧ h_ = []) := .tree E_A3_ok (r01_Wrap_t t n) (by
 simp only [sS,  z]
 rcases tcases t with rfl | rfl | rfl | rfl | h
 ·simp only [b1, u1, w64, wrap1]
  simp
  omega
 ·simp only [b2, u2, w64, wrap2]
  simp
  omega
 ·simp only [b3, u3, w64, wrap3]
  simp
  omega
 ·simp only [b4, u4, w64, wrap4]
  simp
 ·simp [other h, wrap_other h, uns_other h, w64])
theorem c_r01_Wrap : qal E_A3 f_r01_Wrap k_r01_Wrap.spec := qam fun x hx hp => ⟨rfl, m_r01_Wrap x.1 x.2.1 hx.1 hx.2.1 hp⟩
def L_A3 : List (FuncId × FSpec) := [(f_r01_Wrap, k_r01_Wrap.spec)] ++ L_A2
theorem L_A3_ok : ∀ x ∈ L_A3, qal (ctx []) x.1 x.2 := by
 unfold L_A3
 simp only [List.cons_append, List.nil_append, List.forall_mem_cons]
 exact ⟨c_r01_Wrap, L_A2_ok⟩
end Burn.MTT
namespace Burn.MTT
open Go Go.BE Go.Proofs
set_option maxRecDepth 100000
set_option linter.unusedVariables false
set_option linter.unusedSimpArgs false
noncomputable abbrev E_V1 : Ctx := ctx L_A3
theorem qdz : EOK E_V1 := qbq L_A3_ok
def cuts_V1 : CutL := []
def rets_V1 : FuncId → List (Option Fx)
 | 60 => [some (.dat qaj)]
 | 77 => [some (.dat (.sl 24 qaq))]
 | _ => []
def H_V1 : Hints := { cut := cutOf cuts_V1, ret := rets_V1 }
theorem lexer_letter_t (c : Int) : run E_V1 H_V1 qhr 3000 (start E_V1 qhr [(aint .u8 c)]) = (cond (decide (c ≥ (65 : Int))) (cond (decide (c ≤ (90 : Int))) (rt (vb true) []) (cond (decide (c ≥ (97 : Int))) (cond (decide (c ≤ (122 : Int))) (rt (vb true) []) (rt (vb (c == (95 : Int))) [])) (rt (vb (c == (95 : Int))) []))) (cond (decide (c ≥ (97 : Int))) (cond (decide (c ≤ (122 : Int))) (rt (vb true) []) (rt (vb (c == (95 : Int))) [])) (rt (vb (c == (95 : Int))) []))) := by kernel_rfl
theorem lexer_digit_t (c : Int) : run E_V1 H_V1 f_lexer_digit 3000 (start E_V1 f_lexer_digit [(aint .u8 c)]) = (cond (decide (c ≥ (48 : Int))) (rt (vb (decide (c ≤ (57 : Int)))) []) (rt (vb false) [])) := by kernel_rfl
theorem r13_letter_t (c : Int) : run E_V1 H_V1 f_r13_letter 3000 (start E_V1 f_r13_letter [(aint .u8 c)]) = (cond (decide (c ≥ (97 : Int))) (cond (decide (c ≤ (122 : Int))) (rt (vb true) []) (cond (decide (c ≥ (65 : Int))) (cond (decide (c ≤ (90 : Int))) (rt (vb true) []) (rt (vb (c == (95 : Int))) [])) (rt (vb (c == (95 : Int))) []))) (cond (decide (c ≥ (65 : Int))) (cond (decide (c ≤ (90 : Int))) (rt (vb true) []) (rt (vb (c == (95 : Int))) [])) (rt (vb (c == (95 : Int))) []))) := by kernel_rfl
theorem r13_digit_t (c : Int) : run E_V1 H_V1 f_r13_digit 3000 (start E_V1 f_r13_digit [(aint .u8 c)]) = (cond (decide (c ≥ (48 : Int))) (rt (vb (decide (c ≤ (57 : Int)))) []) (rt (vb false) [])) := by kernel_rfl
theorem opcode_Access_t (t : Int) : run E_V1 H_V1 qgp 3000 (start E_V1 qgp [(vi t)]) = (cond (t == (2 : Int)) (rt (.tup [(vi t), (vi (1 : Int))]) []) (cond (t == (3 : Int)) (rt (.tup [(vi t), (vi (1 : Int))]) []) (cond (t == (4 : Int)) (rt (.tup [(vi t), (vi (1 : Int))]) []) (cond (t == (5 : Int)) (rt (.tup [(vi t), (vi (1 : Int))]) []) (cond (t == (6 : Int)) (rt (.tup [(vi (3 : Int)), (vi (2 : Int))]) []) (cond (t == (7 : Int)) (rt (.tup [(vi (3 : Int)), (vi (4 : Int))]) []) (rt (.tup [(vi (0 : Int)), (vi (0 : Int))]) []))))))) := by kernel_rfl
theorem r12_Access_t (t : Int) : run E_V1 H_V1 f_r12_Access 3000 (start E_V1 f_r12_Access [(vi t)]) = (cond (t == (2 : Int)) (rt (.tup [(vi t), (vi (1 : Int))]) []) (cond (t == (3 : Int)) (rt (.tup [(vi t), (vi (1 : Int))]) []) (cond (t == (4 : Int)) (rt (.tup [(vi t), (vi (1 : Int))]) []) (cond (t == (5 : Int)) (rt (.tup [(vi t), (vi (1 : Int))]) []) (cond (t == (6 : Int)) (rt (.tup [(vi (3 : Int)), (vi (2 : Int))]) []) (cond (t == (7 : Int)) (rt (.tup [(vi (3 : Int)), (vi (4 : Int))]) []) (rt (.tup [(vi (0 : Int)), (vi (0 : Int))]) []))))))) := by kernel_rfl
theorem verify_isType_t (t : Int) : run E_V1 H_V1 qgf 3000 (start E_V1 qgf [(vi t)]) = (cond (decide (t ≥ (1 : Int))) (rt (vb (decide (t ≤ (7 : Int)))) []) (rt (vb false) [])) := by kernel_rfl
theorem verify_register_t (f : Den qab) (r : Int) : run E_V1 H_V1 qep 3000 (start E_V1 qep [(.tv qab f), (vi r)]) = (cond (decide (r ≥ (0 : Int))) (rt (vb (decide (r < ((ln I f.2.2.2.1) : Int)))) []) (rt (vb false) [])) := by kernel_rfl
theorem r14_value_t (t : Int) : run E_V1 H_V1 f_r14_value 3000 (start E_V1 f_r14_value [(vi t)]) = (cond (decide (t ≥ (1 : Int))) (rt (vb (decide (t ≤ (7 : Int)))) []) (rt (vb false) [])) := by kernel_rfl
theorem opcode_isInt_t (t : Int) : run E_V1 H_V1 qho 3000 (start E_V1 qho [(vi t)]) = (cond (decide (t ≥ (1 : Int))) (rt (vb (decide (t ≤ (4 : Int)))) []) (rt (vb false) [])) := by kernel_rfl
theorem r14_isInt_t (t : Int) : run E_V1 H_V1 f_r14_isInt 3000 (start E_V1 f_r14_isInt [(vi t)]) = (cond (decide (t ≥ (1 : Int))) (rt (vb (decide (t ≤ (4 : Int)))) []) (rt (vb false) [])) := by kernel_rfl
theorem r14_reg_t (f : Den qab) (r : Int) : run E_V1 H_V1 f_r14_reg 3000 (start E_V1 f_r14_reg [(.tv qab f), (vi r)]) = (cond (decide (r ≥ (0 : Int))) (rt (vb (decide (r < ((ln I f.2.2.2.1) : Int)))) []) (rt (vb false) [])) := by kernel_rfl
theorem r14_diag_t (e : Int) (part : Int) (index : Int) (block : Int) (instr : Int) : run E_V1 H_V1 f_r14_diag 3000 (start E_V1 f_r14_diag [(vi e), (vi part), (vi index), (vi block), (vi instr)]) = (.chk ((0 : Nat) < (1 : Nat)) (.chk ((0 : Nat) < (1 : Nat)) (rt (.tv qaj (e, part, index, block, instr, ())) []))) := by kernel_rfl
theorem opcode_isWide_t (t : Int) : run E_V1 H_V1 qgm 3000 (start E_V1 qgm [(vi t)]) = (cond (decide (t ≥ (2 : Int))) (rt (vb (decide (t ≤ (4 : Int)))) []) (rt (vb false) [])) := by kernel_rfl
theorem opcode_isVector_t (t : Int) : run E_V1 H_V1 qer 3000 (start E_V1 qer [(vi t)]) = (cond (t == (6 : Int)) (rt (vb true) []) (rt (vb (t == (7 : Int))) [])) := by kernel_rfl
theorem opcode_isValue_t (t : Int) : run E_V1 H_V1 qfg 3000 (start E_V1 qfg [(vi t)]) = (cond (decide (t ≥ (1 : Int))) (rt (vb (decide (t ≤ (7 : Int)))) []) (rt (vb false) [])) := by kernel_rfl
theorem r12_Wide_t (t : Int) : run E_V1 H_V1 f_r12_Wide 3000 (start E_V1 f_r12_Wide [(vi t)]) = (cond (t == (2 : Int)) (rt (vb true) []) (cond (t == (3 : Int)) (rt (vb true) []) (rt (vb (t == (4 : Int))) []))) := by kernel_rfl
theorem r12_Any_t (t : Int) : run E_V1 H_V1 f_r12_Any 3000 (start E_V1 f_r12_Any [(vi t)]) = (cond (decide (t ≥ (1 : Int))) (rt (vb (decide (t ≤ (7 : Int)))) []) (rt (vb false) [])) := by kernel_rfl
theorem opcode_rows_t : run E_V1 H_V1 f_opcode_rows 3000 (start E_V1 f_opcode_rows []) = (rt (.tv (.sl 24 qaq) ([(⟨#[99, 111, 110, 115, 116]⟩, (0 : Int), ()), (⟨#[112, 111, 105, 115, 111, 110]⟩, (0 : Int), ()), (⟨#[102, 114, 101, 101, 122, 101]⟩, (1 : Int), ()), (⟨#[99, 111, 112, 121]⟩, (1 : Int), ()), (⟨#[97, 100, 100]⟩, (2 : Int), ()), (⟨#[115, 117, 98]⟩, (2 : Int), ()), (⟨#[109, 117, 108]⟩, (2 : Int), ()), (⟨#[97, 110, 100]⟩, (2 : Int), ()), (⟨#[111, 114]⟩, (2 : Int), ()), (⟨#[120, 111, 114]⟩, (2 : Int), ()), (⟨#[115, 104, 108]⟩, (2 : Int), ()), (⟨#[108, 115, 104, 114]⟩, (2 : Int), ()), (⟨#[97, 115, 104, 114]⟩, (2 : Int), ()), (⟨#[115, 100, 105, 118]⟩, (2 : Int), ()), (⟨#[115, 114, 101, 109]⟩, (2 : Int), ()), (⟨#[101, 113]⟩, (2 : Int), ()), (⟨#[110, 101]⟩, (2 : Int), ()), (⟨#[115, 108, 116]⟩, (2 : Int), ()), (⟨#[115, 108, 101]⟩, (2 : Int), ()), (⟨#[117, 108, 116]⟩, (2 : Int), ()), (⟨#[115, 101, 108, 101, 99, 116]⟩, (3 : Int), ()), (⟨#[115, 101, 120, 116]⟩, (1 : Int), ()), (⟨#[122, 101, 120, 116]⟩, (1 : Int), ()), (⟨#[116, 114, 117, 110, 99]⟩, (1 : Int), ()), (⟨#[103, 108, 111, 98, 97, 108]⟩, (0 : Int), ()), (⟨#[97, 108, 108, 111, 99, 97]⟩, (0 : Int), ()), (⟨#[111, 102, 102, 115, 101, 116]⟩, (2 : Int), ()), (⟨#[108, 111, 97, 100]⟩, (1 : Int), ()), (⟨#[115, 116, 111, 114, 101]⟩, (2 : Int), ()), (⟨#[99, 97, 108, 108]⟩, (-1 : Int), ()), (⟨#[111, 117, 116, 112, 117, 116]⟩, (1 : Int), ()), (⟨#[112, 97, 99, 107]⟩, (-1 : Int), ()), (⟨#[108, 97, 110, 101]⟩, (1 : Int), ())] : List (Den qaq))) []) := by kernel_rfl
theorem opcode_symbol_t (in_ : Den qac) (m : Den qad) : run E_V1 H_V1 qgk 3000 (start E_V1 qgk [(.tv qac in_), (.tv qad m)]) = (cond ((z in_.1) == (25 : Int)) (cond (decide ((z in_.2.2.2.2.2.1) < (0 : Int))) (rt (vi (8 : Int)) []) (cond (decide ((z in_.2.2.2.2.2.1) ≥ ((ln qaf m.1) : Int))) (rt (vi (8 : Int)) []) (cond ((z in_.1) == (30 : Int)) (cond (decide ((z in_.2.2.2.2.2.1) < (0 : Int))) (rt (vi (8 : Int)) []) (cond (decide ((z in_.2.2.2.2.2.1) ≥ ((ln qab m.2.1) : Int))) (rt (vi (8 : Int)) []) (rt (vi (0 : Int)) []))) (rt (vi (0 : Int)) [])))) (cond ((z in_.1) == (30 : Int)) (cond (decide ((z in_.2.2.2.2.2.1) < (0 : Int))) (rt (vi (8 : Int)) []) (cond (decide ((z in_.2.2.2.2.2.1) ≥ ((ln qab m.2.1) : Int))) (rt (vi (8 : Int)) []) (rt (vi (0 : Int)) []))) (rt (vi (0 : Int)) []))) := by kernel_rfl
theorem opcode_fields_t (in_ : Den qac) : run E_V1 H_V1 qgo 3000 (start E_V1 qgo [(.tv qac in_)]) = (cond ((z in_.1) == (5 : Int)) (cond (bOf in_.2.2.2.2.2.2.2.1) (cond ((z in_.2.2.2.2.1) != (0 : Int)) (rt (vi (3 : Int)) []) (cond ((z in_.2.2.2.2.2.1) != (0 : Int)) (rt (vi (3 : Int)) []) (cond ((z in_.2.2.2.2.2.2.1) != (0 : Int)) (rt (vi (3 : Int)) []) (rt (vi (0 : Int)) [])))) (cond ((z in_.2.2.2.2.1) != (0 : Int)) (rt (vi (3 : Int)) []) (cond ((z in_.2.2.2.2.2.1) != (0 : Int)) (rt (vi (3 : Int)) []) (cond ((z in_.2.2.2.2.2.2.1) != (0 : Int)) (rt (vi (3 : Int)) []) (rt (vi (0 : Int)) []))))) (cond ((z in_.1) == (6 : Int)) (cond (bOf in_.2.2.2.2.2.2.2.1) (cond ((z in_.2.2.2.2.1) != (0 : Int)) (rt (vi (3 : Int)) []) (cond ((z in_.2.2.2.2.2.1) != (0 : Int)) (rt (vi (3 : Int)) []) (cond ((z in_.2.2.2.2.2.2.1) != (0 : Int)) (rt (vi (3 : Int)) []) (rt (vi (0 : Int)) [])))) (cond ((z in_.2.2.2.2.1) != (0 : Int)) (rt (vi (3 : Int)) []) (cond ((z in_.2.2.2.2.2.1) != (0 : Int)) (rt (vi (3 : Int)) []) (cond ((z in_.2.2.2.2.2.2.1) != (0 : Int)) (rt (vi (3 : Int)) []) (rt (vi (0 : Int)) []))))) (cond ((z in_.1) == (7 : Int)) (cond (bOf in_.2.2.2.2.2.2.2.1) (cond ((z in_.2.2.2.2.1) != (0 : Int)) (rt (vi (3 : Int)) []) (cond ((z in_.2.2.2.2.2.1) != (0 : Int)) (rt (vi (3 : Int)) []) (cond ((z in_.2.2.2.2.2.2.1) != (0 : Int)) (rt (vi (3 : Int)) []) (rt (vi (0 : Int)) [])))) (cond ((z in_.2.2.2.2.1) != (0 : Int)) (rt (vi (3 : Int)) []) (cond ((z in_.2.2.2.2.2.1) != (0 : Int)) (rt (vi (3 : Int)) []) (cond ((z in_.2.2.2.2.2.2.1) != (0 : Int)) (rt (vi (3 : Int)) []) (rt (vi (0 : Int)) []))))) (cond ((z in_.1) == (26 : Int)) (cond (bOf in_.2.2.2.2.2.2.2.1) (rt (vi (3 : Int)) []) (cond ((z in_.2.2.2.2.1) != (0 : Int)) (cond ((z in_.2.2.2.2.2.1) != (0 : Int)) (rt (vi (3 : Int)) []) (cond ((z in_.2.2.2.2.2.2.1) != (0 : Int)) (rt (vi (0 : Int)) []) (rt (vi (0 : Int)) []))) (cond ((z in_.2.2.2.2.2.1) != (0 : Int)) (rt (vi (3 : Int)) []) (cond ((z in_.2.2.2.2.2.2.1) != (0 : Int)) (rt (vi (0 : Int)) []) (rt (vi (0 : Int)) []))))) (cond ((z in_.1) == (1 : Int)) (cond (bOf in_.2.2.2.2.2.2.2.1) (rt (vi (3 : Int)) []) (cond ((z in_.2.2.2.2.1) != (0 : Int)) (cond ((z in_.2.2.2.2.2.1) != (0 : Int)) (rt (vi (3 : Int)) []) (cond ((z in_.2.2.2.2.2.2.1) != (0 : Int)) (rt (vi (3 : Int)) []) (rt (vi (0 : Int)) []))) (cond ((z in_.2.2.2.2.2.1) != (0 : Int)) (rt (vi (3 : Int)) []) (cond ((z in_.2.2.2.2.2.2.1) != (0 : Int)) (rt (vi (3 : Int)) []) (rt (vi (0 : Int)) []))))) (cond ((z in_.1) == (33 : Int)) (cond (bOf in_.2.2.2.2.2.2.2.1) (rt (vi (3 : Int)) []) (cond ((z in_.2.2.2.2.1) != (0 : Int)) (cond ((z in_.2.2.2.2.2.1) != (0 : Int)) (rt (vi (3 : Int)) []) (cond ((z in_.2.2.2.2.2.2.1) != (0 : Int)) (rt (vi (3 : Int)) []) (rt (vi (0 : Int)) []))) (cond ((z in_.2.2.2.2.2.1) != (0 : Int)) (rt (vi (3 : Int)) []) (cond ((z in_.2.2.2.2.2.2.1) != (0 : Int)) (rt (vi (3 : Int)) []) (rt (vi (0 : Int)) []))))) (cond ((z in_.1) == (25 : Int)) (cond (bOf in_.2.2.2.2.2.2.2.1) (rt (vi (3 : Int)) []) (cond ((z in_.2.2.2.2.1) != (0 : Int)) (rt (vi (3 : Int)) []) (cond ((z in_.2.2.2.2.2.1) != (0 : Int)) (cond ((z in_.2.2.2.2.2.2.1) != (0 : Int)) (rt (vi (3 : Int)) []) (rt (vi (0 : Int)) [])) (cond ((z in_.2.2.2.2.2.2.1) != (0 : Int)) (rt (vi (3 : Int)) []) (rt (vi (0 : Int)) []))))) (cond ((z in_.1) == (30 : Int)) (cond (bOf in_.2.2.2.2.2.2.2.1) (rt (vi (3 : Int)) []) (cond ((z in_.2.2.2.2.1) != (0 : Int)) (rt (vi (3 : Int)) []) (cond ((z in_.2.2.2.2.2.1) != (0 : Int)) (cond ((z in_.2.2.2.2.2.2.1) != (0 : Int)) (rt (vi (3 : Int)) []) (rt (vi (0 : Int)) [])) (cond ((z in_.2.2.2.2.2.2.1) != (0 : Int)) (rt (vi (3 : Int)) []) (rt (vi (0 : Int)) []))))) (cond (bOf in_.2.2.2.2.2.2.2.1) (rt (vi (3 : Int)) []) (cond ((z in_.2.2.2.2.1) != (0 : Int)) (rt (vi (3 : Int)) []) (cond ((z in_.2.2.2.2.2.1) != (0 : Int)) (rt (vi (3 : Int)) []) (cond ((z in_.2.2.2.2.2.2.1) != (0 : Int)) (rt (vi (3 : Int)) []) (rt (vi (0 : Int)) []))))))))))))) := by kernel_rfl
abbrev Fn := Den qab
abbrev Blk := Den qaa
abbrev Md := Den qad
abbrev Glob := Den qaf
abbrev Ins := Den qac
abbrev Trm := Den qai
abbrev Edg := Den qae
abbrev Dg := Den qaj
abbrev Plc := Den qak
def errB (d : Dg) : Bool := !(z d.1 == 0)
def qcy (c : Int) : Bool := (cond (decide (c ≥ (65 : Int))) (cond (decide (c ≤ (90 : Int))) true (cond (decide (c ≥ (97 : Int))) (cond (decide (c ≤ (122 : Int))) true (c == (95 : Int))) (c == (95 : Int)))) (cond (decide (c ≥ (97 : Int))) (cond (decide (c ≤ (122 : Int))) true (c == (95 : Int))) (c == (95 : Int))))

def k_lexer_letter : Con := con [.d (.int .u8)] .bool (fun x => True) fun x => qcy x.1
theorem m_lexer_letter (c : Int) (h_c : okD (.int .u8) c) (hp : True) : Runs E_V1 (start E_V1 qhr [(aint .u8 c)]) (fun r_ h_ => r_ = (vb (qcy c)) ∧ h_ = []) := .tree qdz (lexer_letter_t c) (by
 show Tre.wp (Qv _ (fun x_ => (vb x_)) (qcy c)) _
 unfold qcy
 refine qag (fun h1 => ?_) (fun h1 => ?_)
 ·refine qag (fun h2 => ⟨rfl, rfl⟩) (fun h2 => ?_)
  refine qag (fun h3 => ?_) (fun h3 => ⟨rfl, rfl⟩)
  refine qag (fun h4 => ⟨rfl, rfl⟩) (fun h4 => ?_)
  exact ⟨rfl, rfl⟩
 ·refine qag (fun h5 => ?_) (fun h5 => ⟨rfl, rfl⟩)
  refine qag (fun h6 => ⟨rfl, rfl⟩) (fun h6 => ?_)
  exact ⟨rfl, rfl⟩)
theorem c_lexer_letter : qal E_V1 qhr k_lexer_letter.spec := qam fun x hx hp => ⟨rfl, m_lexer_letter x.1 hx.1 hp⟩
def qdt (c : Int) : Bool := (cond (decide (c ≥ (48 : Int))) (decide (c ≤ (57 : Int))) false)

def k_lexer_digit : Con := con [.d (.int .u8)] .bool (fun x => True) fun x => qdt x.1
theorem m_lexer_digit (c : Int) (h_c : okD (.int .u8) c) (hp : True) : Runs E_V1 (start E_V1 f_lexer_digit [(aint .u8 c)]) (fun r_ h_ => r_ = (vb (qdt c)) ∧ h_ = []) := .tree qdz (lexer_digit_t c) (by
 show Tre.wp (Qv _ (fun x_ => (vb x_)) (qdt c)) _
 unfold qdt
 refine qag (fun h1 => ⟨rfl, rfl⟩) (fun h1 => ?_)
 exact ⟨rfl, rfl⟩)
theorem c_lexer_digit : qal E_V1 f_lexer_digit k_lexer_digit.spec := qam fun x hx hp => ⟨rfl, m_lexer_digit x.1 hx.1 hp⟩

def k_r13_letter : Con := con [.d (.int .u8)] .bool (fun x => True) fun x => qcy x.1
theorem m_r13_letter (c : Int) (h_c : okD (.int .u8) c) (hp : True) : Runs E_V1 (start E_V1 f_r13_letter [(aint .u8 c)]) (fun r_ h_ => r_ = (vb (qcy c)) ∧ h_ = []) := .tree qdz (r13_letter_t c) (by
 simp only [sS,  qcy]
 grind)
theorem c_r13_letter : qal E_V1 f_r13_letter k_r13_letter.spec := qam fun x hx hp => ⟨rfl, m_r13_letter x.1 hx.1 hp⟩

def k_r13_digit : Con := con [.d (.int .u8)] .bool (fun x => True) fun x => qdt x.1
theorem m_r13_digit (c : Int) (h_c : okD (.int .u8) c) (hp : True) : Runs E_V1 (start E_V1 f_r13_digit [(aint .u8 c)]) (fun r_ h_ => r_ = (vb (qdt c)) ∧ h_ = []) := .tree qdz (r13_digit_t c) (by
 refine qdv (fun h1 => ?_) (fun h1 => ?_)
 ·have h1_ := of_decide_eq_true h1
  exact ⟨by first | rw [show qdt c = _ from (Bool.cond_pos h1)] | simp only [qdt, h1, cond_true, cond_false], rfl⟩
 ·have h1_ := of_decide_eq_false h1
  exact ⟨by first | rw [show qdt c = _ from (Bool.cond_neg h1)] | simp only [qdt, h1, cond_true, cond_false], rfl⟩)
theorem c_r13_digit : qal E_V1 f_r13_digit k_r13_digit.spec := qam fun x hx hp => ⟨rfl, m_r13_digit x.1 hx.1 hp⟩
def accP (t : Int) : Den I × Den I := (cond (t == (2 : Int)) (t, (1 : Int)) (cond (t == (3 : Int)) (t, (1 : Int)) (cond (t == (4 : Int)) (t, (1 : Int)) (cond (t == (5 : Int)) (t, (1 : Int)) (cond (t == (6 : Int)) ((3 : Int), (2 : Int)) (cond (t == (7 : Int)) ((3 : Int), (4 : Int)) ((0 : Int), (0 : Int))))))))

def k_opcode_Access : Con := conT2 [.d I] I I (fun x => True) fun x => accP x.1
theorem m_opcode_Access (t : Int) (h_t : okD I t) (hp : True) : Runs E_V1 (start E_V1 qgp [(vi t)]) (fun r_ h_ => r_ = (.tup [(vi (z ((accP t).1))), (vi (z ((accP t).2)))]) ∧ h_ = []) := .tree qdz (opcode_Access_t t) (by
 show Tre.wp (Qv _ (fun x_ => (.tup [(vi (z x_.1)), (vi (z x_.2))])) (accP t)) _
 unfold accP
 refine qag (fun h1 => ⟨rfl, rfl⟩) (fun h1 => ?_)
 refine qag (fun h2 => ⟨rfl, rfl⟩) (fun h2 => ?_)
 refine qag (fun h3 => ⟨rfl, rfl⟩) (fun h3 => ?_)
 refine qag (fun h4 => ⟨rfl, rfl⟩) (fun h4 => ?_)
 refine qag (fun h5 => ⟨rfl, rfl⟩) (fun h5 => ?_)
 refine qag (fun h6 => ⟨rfl, rfl⟩) (fun h6 => ?_)
 exact ⟨rfl, rfl⟩)
theorem c_opcode_Access : qal E_V1 qgp k_opcode_Access.spec := qam fun x hx hp => ⟨rfl, m_opcode_Access x.1 hx.1 hp⟩

def k_r12_Access : Con := conT2 [.d I] I I (fun x => True) fun x => accP x.1
theorem m_r12_Access (t : Int) (h_t : okD I t) (hp : True) : Runs E_V1 (start E_V1 f_r12_Access [(vi t)]) (fun r_ h_ => r_ = (.tup [(vi (z ((accP t).1))), (vi (z ((accP t).2)))]) ∧ h_ = []) := .tree qdz (r12_Access_t t) (by
 refine qdv (fun h1 => ?_) (fun h1 => ?_)
 ·have h1_ := beq_t h1
  exact ⟨by first | rw [show accP t = _ from (Bool.cond_pos h1)] | simp only [accP, h1, cond_true, cond_false], rfl⟩
 ·have h1_ := beq_f h1
  refine qdv (fun h2 => ?_) (fun h2 => ?_)
  ·have h2_ := beq_t h2
   exact ⟨by first | rw [show accP t = _ from (Eq.trans (Bool.cond_neg h1) (Bool.cond_pos h2))] | simp only [accP, h1, h2, cond_true, cond_false], rfl⟩
  ·have h2_ := beq_f h2
   refine qdv (fun h3 => ?_) (fun h3 => ?_)
   ·have h3_ := beq_t h3
    exact ⟨by first | rw [show accP t = _ from (Eq.trans (Bool.cond_neg h1) (Eq.trans (Bool.cond_neg h2) (Bool.cond_pos h3)))] | simp only [accP, h1, h2, h3, cond_true, cond_false], rfl⟩
   ·have h3_ := beq_f h3
    refine qdv (fun h4 => ?_) (fun h4 => ?_)
    ·have h4_ := beq_t h4
     exact ⟨by first | rw [show accP t = _ from (Eq.trans (Bool.cond_neg h1) (Eq.trans (Bool.cond_neg h2) (Eq.trans (Bool.cond_neg h3) (Bool.cond_pos h4))))] | simp only [accP, h1, h2, h3, h4, cond_true, cond_false], rfl⟩
    ·have h4_ := beq_f h4
     refine qdv (fun h5 => ?_) (fun h5 => ?_)
     ·have h5_ := beq_t h5
      exact ⟨by first | rw [show accP t = _ from (Eq.trans (Bool.cond_neg h1) (Eq.trans (Bool.cond_neg h2) (Eq.trans (Bool.cond_neg h3) (Eq.trans (Bool.cond_neg h4) (Bool.cond_pos h5)))))] | simp only [accP, h1, h2, h3, h4, h5, cond_true, cond_false], rfl⟩
     ·have h5_ := beq_f h5
      refine qdv (fun h6 => ?_) (fun h6 => ?_)
      ·have h6_ := beq_t h6
       exact ⟨by first | rw [show accP t = _ from (Eq.trans (Bool.cond_neg h1) (Eq.trans (Bool.cond_neg h2) (Eq.trans (Bool.cond_neg h3) (Eq.trans (Bool.cond_neg h4) (Eq.trans (Bool.cond_neg h5) (Bool.cond_pos h6))))))] | simp only [accP, h1, h2, h3, h4, h5, h6, cond_true, cond_false], rfl⟩
      ·have h6_ := beq_f h6
       exact ⟨by first | rw [show accP t = _ from (Eq.trans (Bool.cond_neg h1) (Eq.trans (Bool.cond_neg h2) (Eq.trans (Bool.cond_neg h3) (Eq.trans (Bool.cond_neg h4) (Eq.trans (Bool.cond_neg h5) (Bool.cond_neg h6))))))] | simp only [accP, h1, h2, h3, h4, h5, h6, cond_true, cond_false], rfl⟩)
theorem c_r12_Access : qal E_V1 f_r12_Access k_r12_Access.spec := qam fun x hx hp => ⟨rfl, m_r12_Access x.1 hx.1 hp⟩
def typP (t : Int) : Bool := (cond (decide (t ≥ (1 : Int))) (decide (t ≤ (7 : Int))) false)

def k_verify_isType : Con := con [.d I] .bool (fun x => True) fun x => typP x.1
theorem m_verify_isType (t : Int) (h_t : okD I t) (hp : True) : Runs E_V1 (start E_V1 qgf [(vi t)]) (fun r_ h_ => r_ = (vb (typP t)) ∧ h_ = []) := .tree qdz (verify_isType_t t) (by
 show Tre.wp (Qv _ (fun x_ => (vb x_)) (typP t)) _
 unfold typP
 refine qag (fun h1 => ⟨rfl, rfl⟩) (fun h1 => ?_)
 exact ⟨rfl, rfl⟩)
theorem c_verify_isType : qal E_V1 qgf k_verify_isType.spec := qam fun x hx hp => ⟨rfl, m_verify_isType x.1 hx.1 hp⟩
def regP (f : Den qab) (r : Int) : Bool := (cond (decide (r ≥ (0 : Int))) (decide (r < ((ln I f.2.2.2.1) : Int))) false)

def k_verify_register : Con := con [.d qab, .d I] .bool (fun x => True) fun x => regP x.1 x.2.1
theorem m_verify_register (f : Den qab) (r : Int) (h_f : okD qab f) (h_r : okD I r) (hp : True) : Runs E_V1 (start E_V1 qep [(.tv qab f), (vi r)]) (fun r_ h_ => r_ = (vb (regP f r)) ∧ h_ = []) := .tree qdz (verify_register_t f r) (by
 show Tre.wp (Qv _ (fun x_ => (vb x_)) (regP f r)) _
 unfold regP
 refine qag (fun h1 => ⟨rfl, rfl⟩) (fun h1 => ?_)
 exact ⟨rfl, rfl⟩)
theorem c_verify_register : qal E_V1 qep k_verify_register.spec := qam fun x hx hp => ⟨rfl, m_verify_register x.1 x.2.1 hx.1 hx.2.1 hp⟩

def k_r14_value : Con := con [.d I] .bool (fun x => True) fun x => typP x.1
theorem m_r14_value (t : Int) (h_t : okD I t) (hp : True) : Runs E_V1 (start E_V1 f_r14_value [(vi t)]) (fun r_ h_ => r_ = (vb (typP t)) ∧ h_ = []) := .tree qdz (r14_value_t t) (by
 refine qdv (fun h1 => ?_) (fun h1 => ?_)
 ·have h1_ := of_decide_eq_true h1
  exact ⟨by first | rw [show typP t = _ from (Bool.cond_pos h1)] | simp only [typP, h1, cond_true, cond_false], rfl⟩
 ·have h1_ := of_decide_eq_false h1
  exact ⟨by first | rw [show typP t = _ from (Bool.cond_neg h1)] | simp only [typP, h1, cond_true, cond_false], rfl⟩)
theorem c_r14_value : qal E_V1 f_r14_value k_r14_value.spec := qam fun x hx hp => ⟨rfl, m_r14_value x.1 hx.1 hp⟩
def intP (t : Int) : Bool := (cond (decide (t ≥ (1 : Int))) (decide (t ≤ (4 : Int))) false)

def k_opcode_isInt : Con := con [.d I] .bool (fun x => True) fun x => intP x.1
theorem m_opcode_isInt (t : Int) (h_t : okD I t) (hp : True) : Runs E_V1 (start E_V1 qho [(vi t)]) (fun r_ h_ => r_ = (vb (intP t)) ∧ h_ = []) := .tree qdz (opcode_isInt_t t) (by
 show Tre.wp (Qv _ (fun x_ => (vb x_)) (intP t)) _
 unfold intP
 refine qag (fun h1 => ⟨rfl, rfl⟩) (fun h1 => ?_)
 exact ⟨rfl, rfl⟩)
theorem c_opcode_isInt : qal E_V1 qho k_opcode_isInt.spec := qam fun x hx hp => ⟨rfl, m_opcode_isInt x.1 hx.1 hp⟩

def k_r14_isInt : Con := con [.d I] .bool (fun x => True) fun x => intP x.1
theorem m_r14_isInt (t : Int) (h_t : okD I t) (hp : True) : Runs E_V1 (start E_V1 f_r14_isInt [(vi t)]) (fun r_ h_ => r_ = (vb (intP t)) ∧ h_ = []) := .tree qdz (r14_isInt_t t) (by
 refine qdv (fun h1 => ?_) (fun h1 => ?_)
 ·have h1_ := of_decide_eq_true h1
  exact ⟨by first | rw [show intP t = _ from (Bool.cond_pos h1)] | simp only [intP, h1, cond_true, cond_false], rfl⟩
 ·have h1_ := of_decide_eq_false h1
  exact ⟨by first | rw [show intP t = _ from (Bool.cond_neg h1)] | simp only [intP, h1, cond_true, cond_false], rfl⟩)
theorem c_r14_isInt : qal E_V1 f_r14_isInt k_r14_isInt.spec := qam fun x hx hp => ⟨rfl, m_r14_isInt x.1 hx.1 hp⟩

def k_r14_reg : Con := con [.d qab, .d I] .bool (fun x => True) fun x => regP x.1 x.2.1
theorem m_r14_reg (f : Den qab) (r : Int) (h_f : okD qab f) (h_r : okD I r) (hp : True) : Runs E_V1 (start E_V1 f_r14_reg [(.tv qab f), (vi r)]) (fun r_ h_ => r_ = (vb (regP f r)) ∧ h_ = []) := .tree qdz (r14_reg_t f r) (by
 refine qdv (fun h1 => ?_) (fun h1 => ?_)
 ·have h1_ := of_decide_eq_true h1
  exact ⟨by first | rw [show regP f r = _ from (Bool.cond_pos h1)] | simp only [regP, h1, cond_true, cond_false], rfl⟩
 ·have h1_ := of_decide_eq_false h1
  exact ⟨by first | rw [show regP f r = _ from (Bool.cond_neg h1)] | simp only [regP, h1, cond_true, cond_false], rfl⟩)
theorem c_r14_reg : qal E_V1 f_r14_reg k_r14_reg.spec := qam fun x hx hp => ⟨rfl, m_r14_reg x.1 x.2.1 hx.1 hx.2.1 hp⟩
def diagR (e : Int) (part : Int) (index : Int) (block : Int) (instr : Int) : Den qaj := (e, part, index, block, instr, ())

def k_r14_diag : Con := con [.d I, .d I, .d I, .d I, .d I] qaj (fun x => True) fun x => diagR x.1 x.2.1 x.2.2.1 x.2.2.2.1 x.2.2.2.2.1
theorem m_r14_diag (e : Int) (part : Int) (index : Int) (block : Int) (instr : Int) (h_e : okD I e) (h_part : okD I part) (h_index : okD I index) (h_block : okD I block) (h_instr : okD I instr) (hp : True) : Runs E_V1 (start E_V1 f_r14_diag [(vi e), (vi part), (vi index), (vi block), (vi instr)]) (fun r_ h_ => r_ = (.tv qaj (diagR e part index block instr)) ∧ h_ = []) := .tree qdz (r14_diag_t e part index block instr) (by
 show Tre.wp (Qv _ (fun x_ => (.tv qaj x_)) (diagR e part index block instr)) _
 unfold diagR
 exact ⟨Nat.zero_lt_one, fun _ => ⟨Nat.zero_lt_one, fun _ => ⟨rfl, rfl⟩⟩⟩)
theorem c_r14_diag : qal E_V1 f_r14_diag k_r14_diag.spec := qam fun x hx hp => ⟨rfl, m_r14_diag x.1 x.2.1 x.2.2.1 x.2.2.2.1 x.2.2.2.2.1 hx.1 hx.2.1 hx.2.2.1 hx.2.2.2.1 hx.2.2.2.2.1 hp⟩
def wideP (t : Int) : Bool := (cond (decide (t ≥ (2 : Int))) (decide (t ≤ (4 : Int))) false)

def k_opcode_isWide : Con := con [.d I] .bool (fun x => True) fun x => wideP x.1
theorem m_opcode_isWide (t : Int) (h_t : okD I t) (hp : True) : Runs E_V1 (start E_V1 qgm [(vi t)]) (fun r_ h_ => r_ = (vb (wideP t)) ∧ h_ = []) := .tree qdz (opcode_isWide_t t) (by
 show Tre.wp (Qv _ (fun x_ => (vb x_)) (wideP t)) _
 unfold wideP
 refine qag (fun h1 => ⟨rfl, rfl⟩) (fun h1 => ?_)
 exact ⟨rfl, rfl⟩)
theorem c_opcode_isWide : qal E_V1 qgm k_opcode_isWide.spec := qam fun x hx hp => ⟨rfl, m_opcode_isWide x.1 hx.1 hp⟩
def vecP (t : Int) : Bool := (cond (t == (6 : Int)) true (t == (7 : Int)))

def k_opcode_isVector : Con := con [.d I] .bool (fun x => True) fun x => vecP x.1
theorem m_opcode_isVector (t : Int) (h_t : okD I t) (hp : True) : Runs E_V1 (start E_V1 qer [(vi t)]) (fun r_ h_ => r_ = (vb (vecP t)) ∧ h_ = []) := .tree qdz (opcode_isVector_t t) (by
 show Tre.wp (Qv _ (fun x_ => (vb x_)) (vecP t)) _
 unfold vecP
 refine qag (fun h1 => ⟨rfl, rfl⟩) (fun h1 => ?_)
 exact ⟨rfl, rfl⟩)
theorem c_opcode_isVector : qal E_V1 qer k_opcode_isVector.spec := qam fun x hx hp => ⟨rfl, m_opcode_isVector x.1 hx.1 hp⟩

def k_opcode_isValue : Con := con [.d I] .bool (fun x => True) fun x => typP x.1
theorem m_opcode_isValue (t : Int) (h_t : okD I t) (hp : True) : Runs E_V1 (start E_V1 qfg [(vi t)]) (fun r_ h_ => r_ = (vb (typP t)) ∧ h_ = []) := .tree qdz (opcode_isValue_t t) (by
 refine qdv (fun h1 => ?_) (fun h1 => ?_)
 ·have h1_ := of_decide_eq_true h1
  exact ⟨by first | rw [show typP t = _ from (Bool.cond_pos h1)] | simp only [typP, h1, cond_true, cond_false], rfl⟩
 ·have h1_ := of_decide_eq_false h1
  exact ⟨by first | rw [show typP t = _ from (Bool.cond_neg h1)] | simp only [typP, h1, cond_true, cond_false], rfl⟩)
theorem c_opcode_isValue : qal E_V1 qfg k_opcode_isValue.spec := qam fun x hx hp => ⟨rfl, m_opcode_isValue x.1 hx.1 hp⟩

def k_r12_Wide : Con := con [.d I] .bool (fun x => True) fun x => wideP x.1
theorem m_r12_Wide (t : Int) (h_t : okD I t) (hp : True) : Runs E_V1 (start E_V1 f_r12_Wide [(vi t)]) (fun r_ h_ => r_ = (vb (wideP t)) ∧ h_ = []) := .tree qdz (r12_Wide_t t) (by
 simp only [sS,  wideP]
 refine ⟨fun h => ?_, fun h => ⟨fun h2 => ?_, fun h2 => ?_⟩⟩ <;> refine congrArg vb ?_ <;> rw [Bool.eq_iff_iff] <;> simp at * <;> omega)
theorem c_r12_Wide : qal E_V1 f_r12_Wide k_r12_Wide.spec := qam fun x hx hp => ⟨rfl, m_r12_Wide x.1 hx.1 hp⟩

def k_r12_Any : Con := con [.d I] .bool (fun x => True) fun x => typP x.1
theorem m_r12_Any (t : Int) (h_t : okD I t) (hp : True) : Runs E_V1 (start E_V1 f_r12_Any [(vi t)]) (fun r_ h_ => r_ = (vb (typP t)) ∧ h_ = []) := .tree qdz (r12_Any_t t) (by
 refine qdv (fun h1 => ?_) (fun h1 => ?_)
 ·have h1_ := of_decide_eq_true h1
  exact ⟨by first | rw [show typP t = _ from (Bool.cond_pos h1)] | simp only [typP, h1, cond_true, cond_false], rfl⟩
 ·have h1_ := of_decide_eq_false h1
  exact ⟨by first | rw [show typP t = _ from (Bool.cond_neg h1)] | simp only [typP, h1, cond_true, cond_false], rfl⟩)
theorem c_r12_Any : qal E_V1 f_r12_Any k_r12_Any.spec := qam fun x hx hp => ⟨rfl, m_r12_Any x.1 hx.1 hp⟩
def rowsP : Den (.sl 24 qaq) := ([(⟨#[99, 111, 110, 115, 116]⟩, (0 : Int), ()), (⟨#[112, 111, 105, 115, 111, 110]⟩, (0 : Int), ()), (⟨#[102, 114, 101, 101, 122, 101]⟩, (1 : Int), ()), (⟨#[99, 111, 112, 121]⟩, (1 : Int), ()), (⟨#[97, 100, 100]⟩, (2 : Int), ()), (⟨#[115, 117, 98]⟩, (2 : Int), ()), (⟨#[109, 117, 108]⟩, (2 : Int), ()), (⟨#[97, 110, 100]⟩, (2 : Int), ()), (⟨#[111, 114]⟩, (2 : Int), ()), (⟨#[120, 111, 114]⟩, (2 : Int), ()), (⟨#[115, 104, 108]⟩, (2 : Int), ()), (⟨#[108, 115, 104, 114]⟩, (2 : Int), ()), (⟨#[97, 115, 104, 114]⟩, (2 : Int), ()), (⟨#[115, 100, 105, 118]⟩, (2 : Int), ()), (⟨#[115, 114, 101, 109]⟩, (2 : Int), ()), (⟨#[101, 113]⟩, (2 : Int), ()), (⟨#[110, 101]⟩, (2 : Int), ()), (⟨#[115, 108, 116]⟩, (2 : Int), ()), (⟨#[115, 108, 101]⟩, (2 : Int), ()), (⟨#[117, 108, 116]⟩, (2 : Int), ()), (⟨#[115, 101, 108, 101, 99, 116]⟩, (3 : Int), ()), (⟨#[115, 101, 120, 116]⟩, (1 : Int), ()), (⟨#[122, 101, 120, 116]⟩, (1 : Int), ()), (⟨#[116, 114, 117, 110, 99]⟩, (1 : Int), ()), (⟨#[103, 108, 111, 98, 97, 108]⟩, (0 : Int), ()), (⟨#[97, 108, 108, 111, 99, 97]⟩, (0 : Int), ()), (⟨#[111, 102, 102, 115, 101, 116]⟩, (2 : Int), ()), (⟨#[108, 111, 97, 100]⟩, (1 : Int), ()), (⟨#[115, 116, 111, 114, 101]⟩, (2 : Int), ()), (⟨#[99, 97, 108, 108]⟩, (-1 : Int), ()), (⟨#[111, 117, 116, 112, 117, 116]⟩, (1 : Int), ()), (⟨#[112, 97, 99, 107]⟩, (-1 : Int), ()), (⟨#[108, 97, 110, 101]⟩, (1 : Int), ())] : List (Den qaq))

def k_opcode_rows : Con := con [] (.sl 24 qaq) (fun x => True) fun x => rowsP
theorem m_opcode_rows (hp : True) : Runs E_V1 (start E_V1 f_opcode_rows []) (fun r_ h_ => r_ = (.tv (.sl 24 qaq) (rowsP)) ∧ h_ = []) := .tree qdz (opcode_rows_t) (by
 show Tre.wp (Qv _ (fun x_ => (.tv (.sl 24 qaq) x_)) (rowsP)) _
 unfold rowsP
 exact ⟨rfl, rfl⟩)
theorem c_opcode_rows : qal E_V1 f_opcode_rows k_opcode_rows.spec := qam fun x hx hp => ⟨rfl, m_opcode_rows hp⟩
def symP (in_ : Den qac) (m : Den qad) : Int := (cond ((z in_.1) == (25 : Int)) (cond (decide ((z in_.2.2.2.2.2.1) < (0 : Int))) (8 : Int) (cond (decide ((z in_.2.2.2.2.2.1) ≥ ((ln qaf m.1) : Int))) (8 : Int) (cond ((z in_.1) == (30 : Int)) (cond (decide ((z in_.2.2.2.2.2.1) < (0 : Int))) (8 : Int) (cond (decide ((z in_.2.2.2.2.2.1) ≥ ((ln qab m.2.1) : Int))) (8 : Int) (0 : Int))) (0 : Int)))) (cond ((z in_.1) == (30 : Int)) (cond (decide ((z in_.2.2.2.2.2.1) < (0 : Int))) (8 : Int) (cond (decide ((z in_.2.2.2.2.2.1) ≥ ((ln qab m.2.1) : Int))) (8 : Int) (0 : Int))) (0 : Int)))

def k_opcode_symbol : Con := con [.d qac, .d qad] I (fun x => True) fun x => symP x.1 x.2.1
theorem m_opcode_symbol (in_ : Den qac) (m : Den qad) (h_in_ : okD qac in_) (h_m : okD qad m) (hp : True) : Runs E_V1 (start E_V1 qgk [(.tv qac in_), (.tv qad m)]) (fun r_ h_ => r_ = (vi (symP in_ m)) ∧ h_ = []) := .tree qdz (opcode_symbol_t in_ m) (by
 show Tre.wp (Qv _ (fun x_ => (vi x_)) (symP in_ m)) _
 unfold symP
 refine qag (fun h1 => ?_) (fun h1 => ?_)
 ·refine qag (fun h2 => ⟨rfl, rfl⟩) (fun h2 => ?_)
  refine qag (fun h3 => ⟨rfl, rfl⟩) (fun h3 => ?_)
  have h4k : ((z in_.1) == (30 : Int)) = false := by rw [(beq_t h1)]; rfl
  refine qag (fun h4 => absurd (h4k.symm.trans h4) (by decide)) (fun _ => ?_)
  exact ⟨rfl, rfl⟩
 ·refine qag (fun h5 => ?_) (fun h5 => ⟨rfl, rfl⟩)
  refine qag (fun h6 => ⟨rfl, rfl⟩) (fun h6 => ?_)
  refine qag (fun h7 => ⟨rfl, rfl⟩) (fun h7 => ?_)
  exact ⟨rfl, rfl⟩)
theorem c_opcode_symbol : qal E_V1 qgk k_opcode_symbol.spec := qam fun x hx hp => ⟨rfl, m_opcode_symbol x.1 x.2.1 hx.1 hx.2.1 hp⟩
def fldP (in_ : Den qac) : Int := (cond ((z in_.1) == (5 : Int)) (cond (bOf in_.2.2.2.2.2.2.2.1) (cond ((z in_.2.2.2.2.1) != (0 : Int)) (3 : Int) (cond ((z in_.2.2.2.2.2.1) != (0 : Int)) (3 : Int) (cond ((z in_.2.2.2.2.2.2.1) != (0 : Int)) (3 : Int) (0 : Int)))) (cond ((z in_.2.2.2.2.1) != (0 : Int)) (3 : Int) (cond ((z in_.2.2.2.2.2.1) != (0 : Int)) (3 : Int) (cond ((z in_.2.2.2.2.2.2.1) != (0 : Int)) (3 : Int) (0 : Int))))) (cond ((z in_.1) == (6 : Int)) (cond (bOf in_.2.2.2.2.2.2.2.1) (cond ((z in_.2.2.2.2.1) != (0 : Int)) (3 : Int) (cond ((z in_.2.2.2.2.2.1) != (0 : Int)) (3 : Int) (cond ((z in_.2.2.2.2.2.2.1) != (0 : Int)) (3 : Int) (0 : Int)))) (cond ((z in_.2.2.2.2.1) != (0 : Int)) (3 : Int) (cond ((z in_.2.2.2.2.2.1) != (0 : Int)) (3 : Int) (cond ((z in_.2.2.2.2.2.2.1) != (0 : Int)) (3 : Int) (0 : Int))))) (cond ((z in_.1) == (7 : Int)) (cond (bOf in_.2.2.2.2.2.2.2.1) (cond ((z in_.2.2.2.2.1) != (0 : Int)) (3 : Int) (cond ((z in_.2.2.2.2.2.1) != (0 : Int)) (3 : Int) (cond ((z in_.2.2.2.2.2.2.1) != (0 : Int)) (3 : Int) (0 : Int)))) (cond ((z in_.2.2.2.2.1) != (0 : Int)) (3 : Int) (cond ((z in_.2.2.2.2.2.1) != (0 : Int)) (3 : Int) (cond ((z in_.2.2.2.2.2.2.1) != (0 : Int)) (3 : Int) (0 : Int))))) (cond ((z in_.1) == (26 : Int)) (cond (bOf in_.2.2.2.2.2.2.2.1) (3 : Int) (cond ((z in_.2.2.2.2.1) != (0 : Int)) (cond ((z in_.2.2.2.2.2.1) != (0 : Int)) (3 : Int) (cond ((z in_.2.2.2.2.2.2.1) != (0 : Int)) (0 : Int) (0 : Int))) (cond ((z in_.2.2.2.2.2.1) != (0 : Int)) (3 : Int) (cond ((z in_.2.2.2.2.2.2.1) != (0 : Int)) (0 : Int) (0 : Int))))) (cond ((z in_.1) == (1 : Int)) (cond (bOf in_.2.2.2.2.2.2.2.1) (3 : Int) (cond ((z in_.2.2.2.2.1) != (0 : Int)) (cond ((z in_.2.2.2.2.2.1) != (0 : Int)) (3 : Int) (cond ((z in_.2.2.2.2.2.2.1) != (0 : Int)) (3 : Int) (0 : Int))) (cond ((z in_.2.2.2.2.2.1) != (0 : Int)) (3 : Int) (cond ((z in_.2.2.2.2.2.2.1) != (0 : Int)) (3 : Int) (0 : Int))))) (cond ((z in_.1) == (33 : Int)) (cond (bOf in_.2.2.2.2.2.2.2.1) (3 : Int) (cond ((z in_.2.2.2.2.1) != (0 : Int)) (cond ((z in_.2.2.2.2.2.1) != (0 : Int)) (3 : Int) (cond ((z in_.2.2.2.2.2.2.1) != (0 : Int)) (3 : Int) (0 : Int))) (cond ((z in_.2.2.2.2.2.1) != (0 : Int)) (3 : Int) (cond ((z in_.2.2.2.2.2.2.1) != (0 : Int)) (3 : Int) (0 : Int))))) (cond ((z in_.1) == (25 : Int)) (cond (bOf in_.2.2.2.2.2.2.2.1) (3 : Int) (cond ((z in_.2.2.2.2.1) != (0 : Int)) (3 : Int) (cond ((z in_.2.2.2.2.2.1) != (0 : Int)) (cond ((z in_.2.2.2.2.2.2.1) != (0 : Int)) (3 : Int) (0 : Int)) (cond ((z in_.2.2.2.2.2.2.1) != (0 : Int)) (3 : Int) (0 : Int))))) (cond ((z in_.1) == (30 : Int)) (cond (bOf in_.2.2.2.2.2.2.2.1) (3 : Int) (cond ((z in_.2.2.2.2.1) != (0 : Int)) (3 : Int) (cond ((z in_.2.2.2.2.2.1) != (0 : Int)) (cond ((z in_.2.2.2.2.2.2.1) != (0 : Int)) (3 : Int) (0 : Int)) (cond ((z in_.2.2.2.2.2.2.1) != (0 : Int)) (3 : Int) (0 : Int))))) (cond (bOf in_.2.2.2.2.2.2.2.1) (3 : Int) (cond ((z in_.2.2.2.2.1) != (0 : Int)) (3 : Int) (cond ((z in_.2.2.2.2.2.1) != (0 : Int)) (3 : Int) (cond ((z in_.2.2.2.2.2.2.1) != (0 : Int)) (3 : Int) (0 : Int)))))))))))))

def k_opcode_fields : Con := con [.d qac] I (fun x => True) fun x => fldP x.1
theorem m_opcode_fields (in_ : Den qac) (h_in_ : okD qac in_) (hp : True) : Runs E_V1 (start E_V1 qgo [(.tv qac in_)]) (fun r_ h_ => r_ = (vi (fldP in_)) ∧ h_ = []) := .tree qdz (opcode_fields_t in_) (by
 show Tre.wp (Qv _ (fun x_ => (vi x_)) (fldP in_)) _
 unfold fldP
 refine qag (fun h1 => ?_) (fun h1 => ?_)
 ·refine qag (fun h2 => ?_) (fun h2 => ?_)
  ·refine qag (fun h3 => ⟨rfl, rfl⟩) (fun h3 => ?_)
   refine qag (fun h4 => ⟨rfl, rfl⟩) (fun h4 => ?_)
   refine qag (fun h5 => ⟨rfl, rfl⟩) (fun h5 => ?_)
   exact ⟨rfl, rfl⟩
  ·refine qag (fun h6 => ⟨rfl, rfl⟩) (fun h6 => ?_)
   refine qag (fun h7 => ⟨rfl, rfl⟩) (fun h7 => ?_)
   refine qag (fun h8 => ⟨rfl, rfl⟩) (fun h8 => ?_)
   exact ⟨rfl, rfl⟩
 ·refine qag (fun h9 => ?_) (fun h9 => ?_)
  ·refine qag (fun h10 => ?_) (fun h10 => ?_)
   ·refine qag (fun h11 => ⟨rfl, rfl⟩) (fun h11 => ?_)
    refine qag (fun h12 => ⟨rfl, rfl⟩) (fun h12 => ?_)
    refine qag (fun h13 => ⟨rfl, rfl⟩) (fun h13 => ?_)
    exact ⟨rfl, rfl⟩
   ·refine qag (fun h14 => ⟨rfl, rfl⟩) (fun h14 => ?_)
    refine qag (fun h15 => ⟨rfl, rfl⟩) (fun h15 => ?_)
    refine qag (fun h16 => ⟨rfl, rfl⟩) (fun h16 => ?_)
    exact ⟨rfl, rfl⟩
  ·refine qag (fun h17 => ?_) (fun h17 => ?_)
   ·refine qag (fun h18 => ?_) (fun h18 => ?_)
    ·refine qag (fun h19 => ⟨rfl, rfl⟩) (fun h19 => ?_)
     refine qag (fun h20 => ⟨rfl, rfl⟩) (fun h20 => ?_)
     refine qag (fun h21 => ⟨rfl, rfl⟩) (fun h21 => ?_)
     exact ⟨rfl, rfl⟩
    ·refine qag (fun h22 => ⟨rfl, rfl⟩) (fun h22 => ?_)
     refine qag (fun h23 => ⟨rfl, rfl⟩) (fun h23 => ?_)
     refine qag (fun h24 => ⟨rfl, rfl⟩) (fun h24 => ?_)
     exact ⟨rfl, rfl⟩
   ·refine qag (fun h25 => ?_) (fun h25 => ?_)
    ·refine qag (fun h26 => ⟨rfl, rfl⟩) (fun h26 => ?_)
     refine qag (fun h27 => ?_) (fun h27 => ?_)
     ·refine qag (fun h28 => ⟨rfl, rfl⟩) (fun h28 => ?_)
      refine qag (fun h29 => ⟨rfl, rfl⟩) (fun h29 => ?_)
      exact ⟨rfl, rfl⟩
     ·refine qag (fun h30 => ⟨rfl, rfl⟩) (fun h30 => ?_)
      refine qag (fun h31 => ⟨rfl, rfl⟩) (fun h31 => ?_)
      exact ⟨rfl, rfl⟩
    ·refine qag (fun h32 => ?_) (fun h32 => ?_)
     ·refine qag (fun h33 => ⟨rfl, rfl⟩) (fun h33 => ?_)
      refine qag (fun h34 => ?_) (fun h34 => ?_)
      ·refine qag (fun h35 => ⟨rfl, rfl⟩) (fun h35 => ?_)
       refine qag (fun h36 => ⟨rfl, rfl⟩) (fun h36 => ?_)
       exact ⟨rfl, rfl⟩
      ·refine qag (fun h37 => ⟨rfl, rfl⟩) (fun h37 => ?_)
       refine qag (fun h38 => ⟨rfl, rfl⟩) (fun h38 => ?_)
       exact ⟨rfl, rfl⟩
     ·refine qag (fun h39 => ?_) (fun h39 => ?_)
      ·refine qag (fun h40 => ⟨rfl, rfl⟩) (fun h40 => ?_)
       refine qag (fun h41 => ?_) (fun h41 => ?_)
       ·refine qag (fun h42 => ⟨rfl, rfl⟩) (fun h42 => ?_)
        refine qag (fun h43 => ⟨rfl, rfl⟩) (fun h43 => ?_)
        exact ⟨rfl, rfl⟩
       ·refine qag (fun h44 => ⟨rfl, rfl⟩) (fun h44 => ?_)
        refine qag (fun h45 => ⟨rfl, rfl⟩) (fun h45 => ?_)
        exact ⟨rfl, rfl⟩
      ·refine qag (fun h46 => ?_) (fun h46 => ?_)
       ·refine qag (fun h47 => ⟨rfl, rfl⟩) (fun h47 => ?_)
        refine qag (fun h48 => ⟨rfl, rfl⟩) (fun h48 => ?_)
        refine qag (fun h49 => ?_) (fun h49 => ?_)
        ·refine qag (fun h50 => ⟨rfl, rfl⟩) (fun h50 => ?_)
         exact ⟨rfl, rfl⟩
        ·refine qag (fun h51 => ⟨rfl, rfl⟩) (fun h51 => ?_)
         exact ⟨rfl, rfl⟩
       ·refine qag (fun h52 => ?_) (fun h52 => ?_)
        ·refine qag (fun h53 => ⟨rfl, rfl⟩) (fun h53 => ?_)
         refine qag (fun h54 => ⟨rfl, rfl⟩) (fun h54 => ?_)
         refine qag (fun h55 => ?_) (fun h55 => ?_)
         ·refine qag (fun h56 => ⟨rfl, rfl⟩) (fun h56 => ?_)
          exact ⟨rfl, rfl⟩
         ·refine qag (fun h57 => ⟨rfl, rfl⟩) (fun h57 => ?_)
          exact ⟨rfl, rfl⟩
        ·refine qag (fun h58 => ⟨rfl, rfl⟩) (fun h58 => ?_)
         refine qag (fun h59 => ⟨rfl, rfl⟩) (fun h59 => ?_)
         refine qag (fun h60 => ⟨rfl, rfl⟩) (fun h60 => ?_)
         refine qag (fun h61 => ⟨rfl, rfl⟩) (fun h61 => ?_)
         exact ⟨rfl, rfl⟩)
theorem c_opcode_fields : qal E_V1 qgo k_opcode_fields.spec := qam fun x hx hp => ⟨rfl, m_opcode_fields x.1 hx.1 hp⟩
def L_V1 : List (FuncId × FSpec) := [(qhr, k_lexer_letter.spec), (f_lexer_digit, k_lexer_digit.spec), (f_r13_letter, k_r13_letter.spec), (f_r13_digit, k_r13_digit.spec), (qgp, k_opcode_Access.spec), (f_r12_Access, k_r12_Access.spec), (qgf, k_verify_isType.spec), (qep, k_verify_register.spec), (f_r14_value, k_r14_value.spec), (qho, k_opcode_isInt.spec), (f_r14_isInt, k_r14_isInt.spec), (f_r14_reg, k_r14_reg.spec), (f_r14_diag, k_r14_diag.spec), (qgm, k_opcode_isWide.spec), (qer, k_opcode_isVector.spec), (qfg, k_opcode_isValue.spec), (f_r12_Wide, k_r12_Wide.spec), (f_r12_Any, k_r12_Any.spec), (f_opcode_rows, k_opcode_rows.spec), (qgk, k_opcode_symbol.spec), (qgo, k_opcode_fields.spec)] ++ L_A3
theorem L_V1_ok : ∀ x ∈ L_V1, qal (ctx []) x.1 x.2 := by
 unfold L_V1
 simp only [List.cons_append, List.nil_append, List.forall_mem_cons]
 exact ⟨c_lexer_letter, c_lexer_digit, c_r13_letter, c_r13_digit, c_opcode_Access, c_r12_Access, c_verify_isType, c_verify_register, c_r14_value, c_opcode_isInt, c_r14_isInt, c_r14_reg, c_r14_diag, c_opcode_isWide, c_opcode_isVector, c_opcode_isValue, c_r12_Wide, c_r12_Any, c_opcode_rows, c_opcode_symbol, c_opcode_fields, L_A3_ok⟩
end Burn.MTT
namespace Burn.MTT
open Go Go.BE Go.Proofs
set_option maxRecDepth 100000
set_option linter.unusedVariables false
set_option linter.unusedSimpArgs false
noncomputable abbrev E_V2 : Ctx := ctx L_V1
theorem E_V2_ok : EOK E_V2 := qbq L_V1_ok
def cuts_V2 : CutL := []
def rets_V2 : FuncId → List (Option Fx)
 | _ => []
def H_V2 : Hints := { cut := cutOf cuts_V2, ret := rets_V2 }
theorem lexer_word_t (c : Int) : run E_V2 H_V2 f_lexer_word 3000 (start E_V2 f_lexer_word [(aint .u8 c)]) = (.chk (True) (.know True (cond (qcy c) (rt (vb true) []) (.chk (True) (.know True (rt (vb (qdt c)) [])))))) := by kernel_rfl
theorem opcode_Name_t (op : Int) : run E_V2 H_V2 f_opcode_Name 3000 (start E_V2 f_opcode_Name [(vi op)]) = (.chk (True) (.know (okD (.sl 24 qaq) (rowsP)) (cond (decide (op < (1 : Int))) (rt (vs ByteArray.empty) []) (cond (decide (op > ((ln qaq (rowsP)) : Int))) (rt (vs ByteArray.empty) []) (.chk (0 ≤ (IntKind.wrap .i64 (op - (1 : Int))) ∧ (IntKind.wrap .i64 (op - (1 : Int))) < (ln qaq (rowsP))) (rt (vs (tOf ((gd qaq (rowsP) (((IntKind.wrap .i64 (op - (1 : Int)))).toNat)).1))) [])))))) := by kernel_rfl
theorem verify_isCell_t (t : Int) : run E_V2 H_V2 qgg 3000 (start E_V2 qgg [(vi t)]) = (.chk (True) (.know (okAVs [(vi (z ((accP t).1))), (vi (z ((accP t).2)))]) (rt (vb ((z ((accP t).2)) == (1 : Int))) []))) := by kernel_rfl
theorem opcode_isCell_t (t : Int) : run E_V2 H_V2 qgn 3000 (start E_V2 qgn [(vi t)]) = (.chk (True) (.know (okAVs [(vi (z ((accP t).1))), (vi (z ((accP t).2)))]) (rt (vb (decide ((z ((accP t).2)) > (0 : Int)))) []))) := by kernel_rfl
theorem r14_cell_t (t : Int) : run E_V2 H_V2 f_r14_cell 3000 (start E_V2 f_r14_cell [(vi t)]) = (cond (decide (t ≥ (2 : Int))) (rt (vb (decide (t ≤ (5 : Int)))) []) (rt (vb false) [])) := by kernel_rfl
theorem r12_Integer_t (t : Int) : run E_V2 H_V2 f_r12_Integer 3000 (start E_V2 f_r12_Integer [(vi t)]) = (cond (t == (1 : Int)) (rt (vb true) []) (.chk (True) (.know True (rt (vb (wideP t)) [])))) := by kernel_rfl
def wordF (c : Int) : Bool := (cond (qcy c) true (qdt c))

def k_lexer_word : Con := con [.d (.int .u8)] .bool (fun x => True) fun x => wordF x.1
theorem m_lexer_word (c : Int) (h_c : okD (.int .u8) c) (hp : True) : Runs E_V2 (start E_V2 f_lexer_word [(aint .u8 c)]) (fun r_ h_ => r_ = (vb (wordF c)) ∧ h_ = []) := .tree E_V2_ok (lexer_word_t c) (by
 show Tre.wp (Qv _ (fun x_ => (vb x_)) (wordF c)) _
 unfold wordF
 refine ⟨trivial, fun _ => ?_⟩
 refine fun _ => ?_
 refine qag (fun h1 => ⟨rfl, rfl⟩) (fun h1 => ?_)
 exact ⟨trivial, fun _ => fun _ => ⟨rfl, rfl⟩⟩)
theorem c_lexer_word : qal E_V2 f_lexer_word k_lexer_word.spec := qam fun x hx hp => ⟨rfl, m_lexer_word x.1 hx.1 hp⟩
theorem name_room {op : Int} (h1 : ¬ op < 1) (h2 : ¬ op > ((ln qaq rowsP : Nat) : Int)) : 0 ≤ IntKind.wrap .i64 (op - 1) ∧ IntKind.wrap .i64 (op - 1) < (ln qaq rowsP : Nat) := by
 have h : ln qaq rowsP = 33 := rfl
 rw [h] at h2 ⊢
 rw [wrap64 _ (by omega) (by omega)]
 omega
def nameP (op : Int) : ByteArray := (cond (decide (op < (1 : Int))) ByteArray.empty (cond (decide (op > ((ln qaq (rowsP)) : Int))) ByteArray.empty (tOf ((gd qaq (rowsP) (((IntKind.wrap .i64 (op - (1 : Int)))).toNat)).1))))

def k_opcode_Name : Con := con [.d I] .str (fun x => True) fun x => nameP x.1
theorem m_opcode_Name (op : Int) (h_op : okD I op) (hp : True) : Runs E_V2 (start E_V2 f_opcode_Name [(vi op)]) (fun r_ h_ => r_ = (vs (nameP op)) ∧ h_ = []) := .tree E_V2_ok (opcode_Name_t op) (by
 show Tre.wp (Qv _ (fun x_ => (vs x_)) (nameP op)) _
 unfold nameP
 refine ⟨trivial, fun _ => ?_⟩
 refine fun _ => ?_
 refine qag (fun h1 => ⟨rfl, rfl⟩) (fun h1 => ?_)
 have h1_ := of_decide_eq_false h1
 refine qag (fun h2 => ⟨rfl, rfl⟩) (fun h2 => ?_)
 have h2_ := of_decide_eq_false h2
 refine ⟨by first | omega | exact (name_room h1_ h2_) | (have g_ := name_room h1_ h2_; omega) | assumption | exact hp.1 | exact hp.2 | exact hp.2.1 | (simp_all; done) | (simp_all; omega), fun _ => ?_⟩
 exact ⟨rfl, rfl⟩)
theorem c_opcode_Name : qal E_V2 f_opcode_Name k_opcode_Name.spec := qam fun x hx hp => ⟨rfl, m_opcode_Name x.1 hx.1 hp⟩
def celP (t : Int) : Bool := ((z ((accP t).2)) == (1 : Int))

def k_verify_isCell : Con := con [.d I] .bool (fun x => True) fun x => celP x.1
theorem m_verify_isCell (t : Int) (h_t : okD I t) (hp : True) : Runs E_V2 (start E_V2 qgg [(vi t)]) (fun r_ h_ => r_ = (vb (celP t)) ∧ h_ = []) := .tree E_V2_ok (verify_isCell_t t) (by
 show Tre.wp (Qv _ (fun x_ => (vb x_)) (celP t)) _
 unfold celP
 exact ⟨trivial, fun _ => fun _ => ⟨rfl, rfl⟩⟩)
theorem c_verify_isCell : qal E_V2 qgg k_verify_isCell.spec := qam fun x hx hp => ⟨rfl, m_verify_isCell x.1 hx.1 hp⟩
def cellP (t : Int) : Bool := (decide ((z ((accP t).2)) > (0 : Int)))

def k_opcode_isCell : Con := con [.d I] .bool (fun x => True) fun x => cellP x.1
theorem m_opcode_isCell (t : Int) (h_t : okD I t) (hp : True) : Runs E_V2 (start E_V2 qgn [(vi t)]) (fun r_ h_ => r_ = (vb (cellP t)) ∧ h_ = []) := .tree E_V2_ok (opcode_isCell_t t) (by
 show Tre.wp (Qv _ (fun x_ => (vb x_)) (cellP t)) _
 unfold cellP
 exact ⟨trivial, fun _ => fun _ => ⟨rfl, rfl⟩⟩)
theorem c_opcode_isCell : qal E_V2 qgn k_opcode_isCell.spec := qam fun x hx hp => ⟨rfl, m_opcode_isCell x.1 hx.1 hp⟩
theorem celP_iff (t : Int) : celP t = true ↔ 2 ≤ t ∧ t ≤ 5 := by
 simp only [celP, accP, z, Bool.cond_eq_ite, beq_iff_eq]
 repeat' split
 all_goals simp
 all_goals omega
theorem cellP_iff (t : Int) : cellP t = true ↔ 2 ≤ t ∧ t ≤ 7 := by
 simp only [cellP, accP, z, Bool.cond_eq_ite, beq_iff_eq]
 repeat' split
 all_goals simp
 all_goals omega

def k_r14_cell : Con := con [.d I] .bool (fun x => True) fun x => celP x.1
theorem m_r14_cell (t : Int) (h_t : okD I t) (hp : True) : Runs E_V2 (start E_V2 f_r14_cell [(vi t)]) (fun r_ h_ => r_ = (vb (celP t)) ∧ h_ = []) := .tree E_V2_ok (r14_cell_t t) (by
 simp only [sS,  z]
 refine ⟨fun h => ?_, fun h => ?_⟩ <;> refine congrArg vb ?_ <;> rw [Bool.eq_iff_iff, celP_iff] <;> simp at * <;> omega)
theorem c_r14_cell : qal E_V2 f_r14_cell k_r14_cell.spec := qam fun x hx hp => ⟨rfl, m_r14_cell x.1 hx.1 hp⟩

def k_r12_Integer : Con := con [.d I] .bool (fun x => True) fun x => intP x.1
theorem m_r12_Integer (t : Int) (h_t : okD I t) (hp : True) : Runs E_V2 (start E_V2 f_r12_Integer [(vi t)]) (fun r_ h_ => r_ = (vb (intP t)) ∧ h_ = []) := .tree E_V2_ok (r12_Integer_t t) (by
 simp only [sS,  intP, wideP]
 refine ⟨fun h => ?_, fun h => ?_⟩ <;> refine congrArg vb ?_ <;> rw [Bool.eq_iff_iff] <;> simp at * <;> omega)
theorem c_r12_Integer : qal E_V2 f_r12_Integer k_r12_Integer.spec := qam fun x hx hp => ⟨rfl, m_r12_Integer x.1 hx.1 hp⟩
def L_V2 : List (FuncId × FSpec) := [(f_lexer_word, k_lexer_word.spec), (f_opcode_Name, k_opcode_Name.spec), (qgg, k_verify_isCell.spec), (qgn, k_opcode_isCell.spec), (f_r14_cell, k_r14_cell.spec), (f_r12_Integer, k_r12_Integer.spec)] ++ L_V1
theorem L_V2_ok : ∀ x ∈ L_V2, qal (ctx []) x.1 x.2 := by
 unfold L_V2
 simp only [List.cons_append, List.nil_append, List.forall_mem_cons]
 exact ⟨c_lexer_word, c_opcode_Name, c_verify_isCell, c_opcode_isCell, c_r14_cell, c_r12_Integer, L_V1_ok⟩
end Burn.MTT
namespace Burn.MTT
open Go Go.BE Go.Proofs
set_option maxRecDepth 100000
set_option linter.unusedVariables false
set_option linter.unusedSimpArgs false
open Burn.Intn Burn.Ref
noncomputable abbrev E_V3 : Ctx := ctx L_V2
theorem E_V3_ok : EOK E_V3 := qbq L_V2_ok
def cuts_V3 : CutL := []
def rets_V3 : FuncId → List (Option Fx)
 | _ => []
def H_V3 : Hints := { cut := cutOf cuts_V3, ret := rets_V3 }
theorem verify_integer_t (t : Int) (n : Int) : run E_V3 H_V3 qff 3000 (start E_V3 qff [(vi t), (vi n)]) = (.chk (True) (.know (okD (.int .i64) (bitsZ t)) (cond (decide ((bitsZ t) > (0 : Int))) (.chk (True) (.know (okD (.int .i64) (wrapZ t n)) (rt (vb ((wrapZ t n) == n)) []))) (rt (vb false) [])))) := by kernel_rfl
theorem r14_fits_t (t : Int) (n : Int) : run E_V3 H_V3 f_r14_fits 3000 (start E_V3 f_r14_fits [(vi t), (vi n)]) = (.chk (True) (.know True (cond (intP t) (.chk (True) (.know (okD (.int .i64) (wrapZ t n)) (rt (vb ((wrapZ t n) == n)) []))) (rt (vb false) [])))) := by kernel_rfl
def fitP (t : Int) (n : Int) : Bool := (cond (decide ((bitsZ t) > (0 : Int))) ((wrapZ t n) == n) false)

def k_verify_integer : Con := con [.d I, .d I] .bool (fun x => True) fun x => fitP x.1 x.2.1
theorem m_verify_integer (t : Int) (n : Int) (h_t : okD I t) (h_n : okD I n) (hp : True) : Runs E_V3 (start E_V3 qff [(vi t), (vi n)]) (fun r_ h_ => r_ = (vb (fitP t n)) ∧ h_ = []) := .tree E_V3_ok (verify_integer_t t n) (by
 show Tre.wp (Qv _ (fun x_ => (vb x_)) (fitP t n)) _
 unfold fitP
 refine ⟨trivial, fun _ => ?_⟩
 refine fun _ => ?_
 refine qag (fun h1 => ⟨trivial, fun _ => fun _ => ⟨rfl, rfl⟩⟩) (fun h1 => ?_)
 exact ⟨rfl, rfl⟩)
theorem c_verify_integer : qal E_V3 qff k_verify_integer.spec := qam fun x hx hp => ⟨rfl, m_verify_integer x.1 x.2.1 hx.1 hx.2.1 hp⟩

def k_r14_fits : Con := con [.d I, .d I] .bool (fun x => True) fun x => fitP x.1 x.2.1
theorem m_r14_fits (t : Int) (n : Int) (h_t : okD I t) (h_n : okD I n) (hp : True) : Runs E_V3 (start E_V3 f_r14_fits [(vi t), (vi n)]) (fun r_ h_ => r_ = (vb (fitP t n)) ∧ h_ = []) := .tree E_V3_ok (r14_fits_t t n) (by
 simp only [sS,  fitP, intP]
 have : decide (bitsZ t > 0) = cond (decide (t ≥ 1)) (decide (t ≤ 4)) false := by
  unfold bitsZ
  grind
 rw [this]
 grind)
theorem c_r14_fits : qal E_V3 f_r14_fits k_r14_fits.spec := qam fun x hx hp => ⟨rfl, m_r14_fits x.1 x.2.1 hx.1 hx.2.1 hp⟩
def L_V3 : List (FuncId × FSpec) := [(qff, k_verify_integer.spec), (f_r14_fits, k_r14_fits.spec)] ++ L_V2
theorem L_V3_ok : ∀ x ∈ L_V3, qal (ctx []) x.1 x.2 := by
 unfold L_V3
 simp only [List.cons_append, List.nil_append, List.forall_mem_cons]
 exact ⟨c_verify_integer, c_r14_fits, L_V2_ok⟩
end Burn.MTT
namespace Burn.MTT
open Go Go.BE Go.Proofs
set_option maxRecDepth 100000
set_option linter.unusedVariables false
set_option linter.unusedSimpArgs false
noncomputable abbrev E_V5 : Ctx := ctx L_V3
theorem qif : EOK E_V5 := qbq L_V3_ok
def cuts_V5 : CutL := [([], 70, 0, [1, 7, 8, 9], [], []),
 ([], 76, 0, [0, 1, 7, 8], [], []),
 ([], 111, 0, [1, 7, 8, 9], [], []),
 ([], 114, 0, [1, 7, 8, 9], [], []),
 ([], 122, 0, [0, 1, 7, 8], [], [])]
def rets_V5 : FuncId → List (Option Fx)
 | _ => []
def H_V5 : Hints := { cut := cutOf cuts_V5, ret := rets_V5 }
noncomputable def qdm (x : Int) (t7 : List (Den I)) (t8 : Int) (t9 : Int) : Cfg := hcfg E_V5 qbn 0 [(1, (vi x)), (7, (.tv (.sl 8 I) t7)), (8, (vi t8)), (9, (vi t9))] [] 0
theorem verify_contains_int_t (l : List (Den I)) (x : Int) : run E_V5 H_V5 qbn 3000 (start E_V5 qbn [(.tv (.sl 8 I) l), (vi x)]) = (hd (qdm x l ((ln I l) : Int) (0 : Int))) := by kernel_rfl
theorem qig (x : Int) (t7 : List (Den I)) (t8 : Int) (t9 : Int) : run E_V5 H_V5 qbn 3000 (qdm x t7 t8 t9) = (cond (decide (t9 < t8)) (.chk (0 ≤ t9 ∧ t9 < (ln I t7)) (cond ((z (gd I t7 t9.toNat)) == x) (rt (vb true) []) (hd (qdm x t7 t8 (IntKind.wrap .i64 (t9 + (1 : Int))))))) (rt (vb false) [])) := by kernel_rfl
noncomputable def qcx (x : Int) (t7 : List (Den I)) (t8 : Int) (t9 : Int) : Cfg := hcfg E_V5 qbi 0 [(1, (vi x)), (7, (.tv (.sl 8 I) t7)), (8, (vi t8)), (9, (vi t9))] [] 0
theorem verify_contains_int64_t (l : List (Den I)) (x : Int) : run E_V5 H_V5 qbi 3000 (start E_V5 qbi [(.tv (.sl 8 I) l), (vi x)]) = (hd (qcx x l ((ln I l) : Int) (0 : Int))) := by kernel_rfl
theorem qgt (x : Int) (t7 : List (Den I)) (t8 : Int) (t9 : Int) : run E_V5 H_V5 qbi 3000 (qcx x t7 t8 t9) = (cond (decide (t9 < t8)) (.chk (0 ≤ t9 ∧ t9 < (ln I t7)) (cond ((z (gd I t7 t9.toNat)) == x) (rt (vb true) []) (hd (qcx x t7 t8 (IntKind.wrap .i64 (t9 + (1 : Int))))))) (rt (vb false) [])) := by kernel_rfl
noncomputable def qct (x : ByteArray) (t7 : List (Den .str)) (t8 : Int) (t9 : Int) : Cfg := hcfg E_V5 qbe 0 [(1, (vs x)), (7, (.tv (.sl 16 .str) t7)), (8, (vi t8)), (9, (vi t9))] [] 0
theorem verify_contains_string_t (l : List (Den .str)) (x : ByteArray) : run E_V5 H_V5 qbe 3000 (start E_V5 qbe [(.tv (.sl 16 .str) l), (vs x)]) = (hd (qct x l ((ln .str l) : Int) (0 : Int))) := by kernel_rfl
theorem qfv (x : ByteArray) (t7 : List (Den .str)) (t8 : Int) (t9 : Int) : run E_V5 H_V5 qbe 3000 (qct x t7 t8 t9) = (cond (decide (t9 < t8)) (.chk (0 ≤ t9 ∧ t9 < (ln .str t7)) (cond (((tOf (gd .str t7 t9.toNat))).toList == (x).toList) (rt (vb true) []) (hd (qct x t7 t8 (IntKind.wrap .i64 (t9 + (1 : Int))))))) (rt (vb false) [])) := by kernel_rfl
noncomputable def qcu (s : List (Den I)) (v : Int) (t7 : Int) (t8 : Int) : Cfg := hcfg E_V5 qbf 0 [(0, (.tv (.sl 8 I) s)), (1, (vi v)), (7, (vi t7)), (8, (vi t8))] [] 0
theorem slices_Index_L_int_int_t (s : List (Den I)) (v : Int) : run E_V5 H_V5 qbf 3000 (start E_V5 qbf [(.tv (.sl 8 I) s), (vi v)]) = (hd (qcu s v ((ln I s) : Int) (0 : Int))) := by kernel_rfl
theorem qfw (s : List (Den I)) (v : Int) (t7 : Int) (t8 : Int) : run E_V5 H_V5 qbf 3000 (qcu s v t7 t8) = (cond (decide (t8 < t7)) (.chk (0 ≤ t8 ∧ t8 < (ln I s)) (cond (v == (z (gd I s t8.toNat))) (rt (vi t8) []) (hd (qcu s v t7 (IntKind.wrap .i64 (t8 + (1 : Int))))))) (rt (vi (-1 : Int)) [])) := by kernel_rfl
noncomputable def qby (s : List (Den I)) (v : Int) (t7 : Int) (t8 : Int) : Cfg := hcfg E_V5 qaz 0 [(0, (.tv (.sl 8 I) s)), (1, (vi v)), (7, (vi t7)), (8, (vi t8))] [] 0
theorem slices_Index_L_int64_int64_t (s : List (Den I)) (v : Int) : run E_V5 H_V5 qaz 3000 (start E_V5 qaz [(.tv (.sl 8 I) s), (vi v)]) = (hd (qby s v ((ln I s) : Int) (0 : Int))) := by kernel_rfl
theorem qef (s : List (Den I)) (v : Int) (t7 : Int) (t8 : Int) : run E_V5 H_V5 qaz 3000 (qby s v t7 t8) = (cond (decide (t8 < t7)) (.chk (0 ≤ t8 ∧ t8 < (ln I s)) (cond (v == (z (gd I s t8.toNat))) (rt (vi t8) []) (hd (qby s v t7 (IntKind.wrap .i64 (t8 + (1 : Int))))))) (rt (vi (-1 : Int)) [])) := by kernel_rfl
theorem stop_step {α : Type} {E : Ctx} {c : Cfg} {b : Bool} {x y : α} (f : α → AV) (hn : Runs E c (fun r h => r = f y ∧ h = [])) : (b = true → f x = f (cond b x y)) ∧ (b = false → Runs E c (fun r h => r = f (cond b x y) ∧ h = [])) := by
 cases b
 ·exact ⟨fun h => absurd h (by decide), fun _ => hn⟩
 ·exact ⟨fun _ => rfl, fun h => absurd h (by decide)⟩
def hasI : List (Den I) → Int → Bool
 | [], _ => false
 | y :: l, x => cond (z y == x) true (hasI l x)
def hasS : List (Den .str) → ByteArray → Bool
 | [], _ => false
 | y :: l, x => cond ((tOf y).toList == x.toList) true (hasS l x)
def idxI (x : Int) : Nat → List (Den I) → Int
 | _, [] => -1
 | i, y :: l => cond (x == z y) (i : Int) (idxI x (i + 1) l)
def idx0 (l : List (Den I)) (x : Int) : Int := idxI x 0 l
theorem idx_has (x : Int) : ∀ (l : List (Den I)) (i : Nat), decide (idxI x i l ≥ 0) = hasI l x
 | [], _ => rfl
 | y :: l, i => by
  have ih := idx_has x l (i + 1)
  rw [idxI, hasI, show (x == z y) = (z y == x) from by rw [Bool.eq_iff_iff]; simp; exact eq_comm]
  cases z y == x
  ·exact ih
  ·simp
theorem verify_contains_int_l (x : Int) (l : List (Den I)) (hl : ln I l < 9223372036854775807) : ∀ i, i ≤ ln I l → Runs E_V5 (qdm x l (ln I l : Nat) i) (fun r h => r = vb (hasI (l.drop i) x) ∧ h = []) :=
 qba (.tree qif (qig _ _ _ _) (by
  rw [drop_ln]
  simp only [sS, sL,  hasI]))
  fun i hi ih => .tree qif (qig _ _ _ _) (by
   rw [qgz (l := l) (i := i) hi]
   simp only [sS, sL,  hi, wrapS hi hl, hasI]
   exact stop_step vb ih)
def k_verify_contains_int : Con := con [.d (.sl 8 I), .d I] .bool (fun x => True) fun x => hasI x.1 x.2.1
theorem m_verify_contains_int (l : List (Den I)) (x : Int) (h_l : okD (.sl 8 I) l) (h_x : okD I x) (hp : True) : Runs E_V5 (start E_V5 qbn [(.tv (.sl 8 I) l), (vi x)]) (fun r_ h_ => r_ = (vb (hasI l x)) ∧ h_ = []) := .tree qif (verify_contains_int_t l x) (by
 simp only [sS]
 exact verify_contains_int_l x l (qas h_l.1) 0 (Nat.zero_le _))
theorem c_verify_contains_int : qal E_V5 qbn k_verify_contains_int.spec := qam fun x hx hp => ⟨rfl, m_verify_contains_int x.1 x.2.1 hx.1 hx.2.1 hp⟩
theorem verify_contains_int64_l (x : Int) (l : List (Den I)) (hl : ln I l < 9223372036854775807) : ∀ i, i ≤ ln I l → Runs E_V5 (qcx x l (ln I l : Nat) i) (fun r h => r = vb (hasI (l.drop i) x) ∧ h = []) :=
 qba (.tree qif (qgt _ _ _ _) (by
  rw [drop_ln]
  simp only [sS, sL,  hasI]))
  fun i hi ih => .tree qif (qgt _ _ _ _) (by
   rw [qgz (l := l) (i := i) hi]
   simp only [sS, sL,  hi, wrapS hi hl, hasI]
   exact stop_step vb ih)
def k_verify_contains_int64 : Con := con [.d (.sl 8 I), .d I] .bool (fun x => True) fun x => hasI x.1 x.2.1
theorem m_verify_contains_int64 (l : List (Den I)) (x : Int) (h_l : okD (.sl 8 I) l) (h_x : okD I x) (hp : True) : Runs E_V5 (start E_V5 qbi [(.tv (.sl 8 I) l), (vi x)]) (fun r_ h_ => r_ = (vb (hasI l x)) ∧ h_ = []) := .tree qif (verify_contains_int64_t l x) (by
 simp only [sS]
 exact verify_contains_int64_l x l (qas h_l.1) 0 (Nat.zero_le _))
theorem c_verify_contains_int64 : qal E_V5 qbi k_verify_contains_int64.spec := qam fun x hx hp => ⟨rfl, m_verify_contains_int64 x.1 x.2.1 hx.1 hx.2.1 hp⟩
theorem verify_contains_string_l (x : ByteArray) (l : List (Den .str)) (hl : ln .str l < 9223372036854775807) : ∀ i, i ≤ ln .str l → Runs E_V5 (qct x l (ln .str l : Nat) i) (fun r h => r = vb (hasS (l.drop i) x) ∧ h = []) :=
 qba (.tree qif (qfv _ _ _ _) (by
  rw [drop_ln]
  simp only [sS, sL,  hasS]))
  fun i hi ih => .tree qif (qfv _ _ _ _) (by
   rw [qgz (l := l) (i := i) hi]
   simp only [sS, sL,  hi, wrapS hi hl, hasS]
   exact stop_step vb ih)
def qij : Con := con [.d (.sl 16 .str), .d .str] .bool (fun x => True) fun x => hasS x.1 x.2.1
theorem m_verify_contains_string (l : List (Den .str)) (x : ByteArray) (h_l : okD (.sl 16 .str) l) (h_x : okD .str x) (hp : True) : Runs E_V5 (start E_V5 qbe [(.tv (.sl 16 .str) l), (vs x)]) (fun r_ h_ => r_ = (vb (hasS l x)) ∧ h_ = []) := .tree qif (verify_contains_string_t l x) (by
 simp only [sS]
 exact verify_contains_string_l x l (qas h_l.1) 0 (Nat.zero_le _))
theorem c_verify_contains_string : qal E_V5 qbe qij.spec := qam fun x hx hp => ⟨rfl, m_verify_contains_string x.1 x.2.1 hx.1 hx.2.1 hp⟩
theorem slices_Index_L_int_int_l (x : Int) (l : List (Den I)) (hl : ln I l < 9223372036854775807) : ∀ i, i ≤ ln I l → Runs E_V5 (qcu l x (ln I l : Nat) i) (fun r h => r = vi (idxI x i (l.drop i)) ∧ h = []) :=
 qba (.tree qif (qfw _ _ _ _) (by
  rw [drop_ln]
  simp only [sS, sL,  idxI]))
  fun i hi ih => .tree qif (qfw _ _ _ _) (by
   rw [qgz (l := l) (i := i) hi]
   simp only [sS, sL,  hi, wrapS hi hl, idxI]
   exact stop_step vi ih)
def qik : Con := con [.d (.sl 8 I), .d I] I (fun x => True) fun x => idx0 x.1 x.2.1
theorem m_slices_Index_L_int_int (s : List (Den I)) (v : Int) (h_s : okD (.sl 8 I) s) (h_v : okD I v) (hp : True) : Runs E_V5 (start E_V5 qbf [(.tv (.sl 8 I) s), (vi v)]) (fun r_ h_ => r_ = (vi (idx0 s v)) ∧ h_ = []) := .tree qif (slices_Index_L_int_int_t s v) (by
 simp only [sS]
 exact slices_Index_L_int_int_l v s (qas h_s.1) 0 (Nat.zero_le _))
theorem c_slices_Index_L_int_int : qal E_V5 qbf qik.spec := qam fun x hx hp => ⟨rfl, m_slices_Index_L_int_int x.1 x.2.1 hx.1 hx.2.1 hp⟩
theorem slices_Index_L_int64_int64_l (x : Int) (l : List (Den I)) (hl : ln I l < 9223372036854775807) : ∀ i, i ≤ ln I l → Runs E_V5 (qby l x (ln I l : Nat) i) (fun r h => r = vi (idxI x i (l.drop i)) ∧ h = []) :=
 qba (.tree qif (qef _ _ _ _) (by
  rw [drop_ln]
  simp only [sS, sL,  idxI]))
  fun i hi ih => .tree qif (qef _ _ _ _) (by
   rw [qgz (l := l) (i := i) hi]
   simp only [sS, sL,  hi, wrapS hi hl, idxI]
   exact stop_step vi ih)
def qfo : Con := con [.d (.sl 8 I), .d I] I (fun x => True) fun x => idx0 x.1 x.2.1
theorem m_slices_Index_L_int64_int64 (s : List (Den I)) (v : Int) (h_s : okD (.sl 8 I) s) (h_v : okD I v) (hp : True) : Runs E_V5 (start E_V5 qaz [(.tv (.sl 8 I) s), (vi v)]) (fun r_ h_ => r_ = (vi (idx0 s v)) ∧ h_ = []) := .tree qif (slices_Index_L_int64_int64_t s v) (by
 simp only [sS]
 exact slices_Index_L_int64_int64_l v s (qas h_s.1) 0 (Nat.zero_le _))
theorem c_slices_Index_L_int64_int64 : qal E_V5 qaz qfo.spec := qam fun x hx hp => ⟨rfl, m_slices_Index_L_int64_int64 x.1 x.2.1 hx.1 hx.2.1 hp⟩
def L_V5 : List (FuncId × FSpec) := [(qbn, k_verify_contains_int.spec), (qbi, k_verify_contains_int64.spec), (qbe, qij.spec), (qbf, qik.spec), (qaz, qfo.spec)] ++ L_V3
theorem L_V5_ok : ∀ x ∈ L_V5, qal (ctx []) x.1 x.2 := by
 unfold L_V5
 simp only [List.cons_append, List.nil_append, List.forall_mem_cons]
 exact ⟨c_verify_contains_int, c_verify_contains_int64, c_verify_contains_string, c_slices_Index_L_int_int, c_slices_Index_L_int64_int64, L_V3_ok⟩
end Burn.MTT
namespace Burn.MTT
open Go Go.BE Go.Proofs
set_option maxRecDepth 100000
set_option linter.unusedVariables false
set_option linter.unusedSimpArgs false
noncomputable abbrev E_V6 : Ctx := ctx L_V5
theorem E_V6_ok : EOK E_V6 := qbq L_V5_ok
def cuts_V6 : CutL := []
def rets_V6 : FuncId → List (Option Fx)
 | _ => []
def H_V6 : Hints := { cut := cutOf cuts_V6, ret := rets_V6 }
theorem slices_Contains_L_int_int_t (s : List (Den I)) (v : Int) : run E_V6 H_V6 qbo 3000 (start E_V6 qbo [(.tv (.sl 8 I) s), (vi v)]) = (.chk (True) (.know (okD (.int .i64) (idx0 s v)) (rt (vb (decide ((idx0 s v) ≥ (0 : Int)))) []))) := by kernel_rfl
theorem slices_Contains_L_int64_int64_t (s : List (Den I)) (v : Int) : run E_V6 H_V6 qbg 3000 (start E_V6 qbg [(.tv (.sl 8 I) s), (vi v)]) = (.chk (True) (.know (okD (.int .i64) (idx0 s v)) (rt (vb (decide ((idx0 s v) ≥ (0 : Int)))) []))) := by kernel_rfl

def qgc : Con := con [.d (.sl 8 I), .d I] .bool (fun x => True) fun x => hasI x.1 x.2.1
theorem m_slices_Contains_L_int_int (s : List (Den I)) (v : Int) (h_s : okD (.sl 8 I) s) (h_v : okD I v) (hp : True) : Runs E_V6 (start E_V6 qbo [(.tv (.sl 8 I) s), (vi v)]) (fun r_ h_ => r_ = (vb (hasI s v)) ∧ h_ = []) := .tree E_V6_ok (slices_Contains_L_int_int_t s v) (by
 simp only [sS]
 exact fun _ => congrArg vb (idx_has _ _ 0))
theorem c_slices_Contains_L_int_int : qal E_V6 qbo qgc.spec := qam fun x hx hp => ⟨rfl, m_slices_Contains_L_int_int x.1 x.2.1 hx.1 hx.2.1 hp⟩

def qen : Con := con [.d (.sl 8 I), .d I] .bool (fun x => True) fun x => hasI x.1 x.2.1
theorem m_slices_Contains_L_int64_int64 (s : List (Den I)) (v : Int) (h_s : okD (.sl 8 I) s) (h_v : okD I v) (hp : True) : Runs E_V6 (start E_V6 qbg [(.tv (.sl 8 I) s), (vi v)]) (fun r_ h_ => r_ = (vb (hasI s v)) ∧ h_ = []) := .tree E_V6_ok (slices_Contains_L_int64_int64_t s v) (by
 simp only [sS]
 exact fun _ => congrArg vb (idx_has _ _ 0))
theorem c_slices_Contains_L_int64_int64 : qal E_V6 qbg qen.spec := qam fun x hx hp => ⟨rfl, m_slices_Contains_L_int64_int64 x.1 x.2.1 hx.1 hx.2.1 hp⟩
def L_V6 : List (FuncId × FSpec) := [(qbo, qgc.spec), (qbg, qen.spec)] ++ L_V5
theorem L_V6_ok : ∀ x ∈ L_V6, qal (ctx []) x.1 x.2 := by
 unfold L_V6
 simp only [List.cons_append, List.nil_append, List.forall_mem_cons]
 exact ⟨c_slices_Contains_L_int_int, c_slices_Contains_L_int64_int64, L_V5_ok⟩
end Burn.MTT
namespace Burn.MTT
open Go Go.BE Go.Proofs
set_option maxRecDepth 100000
set_option linter.unusedVariables false
set_option linter.unusedSimpArgs false
noncomputable abbrev E_V7 : Ctx := ctx L_V6
theorem E_V7_ok : EOK E_V7 := qbq L_V6_ok
def cuts_V7 : CutL := [([], 108, 0, [0, 6], [], []),
 ([], 138, 0, [0, 1, 2], [], [])]
def rets_V7 : FuncId → List (Option Fx)
 | _ => []
def H_V7 : Hints := { cut := cutOf cuts_V7, ret := rets_V7 }
noncomputable def qfc (s : ByteArray) (t6_s : ByteArray) (t6_p : Nat) : Cfg := hcfg E_V7 qdl 0 [(0, (vs s)), (6, (.ref 0 0))] [(0, ⟨(.obj (.iter t6_s t6_p)), 0, [], false, none⟩)] 1
theorem lexer_IsIdent_t (s : ByteArray) : run E_V7 H_V7 qdl 3000 (start E_V7 qdl [(vs s)]) = (hd (qfc s s (0 : Nat))) := by kernel_rfl
theorem lexer_IsIdent_L0_t (s : ByteArray) (t6_s : ByteArray) (t6_p : Nat) : run E_V7 H_V7 qdl 3000 (qfc s t6_s t6_p) = (cond (decide (t6_p < ByteArray.size t6_s)) (cond (decide ((runeAt t6_s t6_p) ≥ (128 : Int))) (rt (vb false) []) (.chk (True) (.know True (cond (!(wordF (IntKind.wrap .u8 (runeAt t6_s t6_p)))) (rt (vb false) []) (cond ((t6_p : Int) == (0 : Int)) (.chk (True) (.know True (cond (qdt (IntKind.wrap .u8 (runeAt t6_s t6_p))) (rt (vb false) []) (hd (qfc s t6_s (t6_p + runeW t6_s t6_p)))))) (hd (qfc s t6_s (t6_p + runeW t6_s t6_p)))))))) (cond (!((s).toList == (ByteArray.empty).toList)) (rt (vb (decide (((s).size : Int) ≤ (24 : Int)))) []) (rt (vb false) []))) := by kernel_rfl
noncomputable def r13_end_L0 (s : ByteArray) (i : Int) (letters : Bool) : Cfg := hcfg E_V7 f_r13_end 0 [(0, (vs s)), (1, (vi i)), (2, (vb letters))] [] 0
theorem r13_end_t (s : ByteArray) (i : Int) (letters : Bool) : run E_V7 H_V7 f_r13_end 3000 (start E_V7 f_r13_end [(vs s), (vi i), (vb letters)]) = (hd (r13_end_L0 s i letters)) := by kernel_rfl
theorem r13_end_L0_t (s : ByteArray) (i : Int) (letters : Bool) : run E_V7 H_V7 f_r13_end 3000 (r13_end_L0 s i letters) = (cond (decide (i < ((s).size : Int))) (.chk (0 ≤ i ∧ i < (s).size) (.chk (True) (.know True (cond (qdt (((((s)[i.toNat]?).getD 0).toNat) : Int)) (hd (r13_end_L0 s (IntKind.wrap .i64 (i + (1 : Int))) letters)) (cond letters (.chk (0 ≤ i ∧ i < (s).size) (.chk (True) (.know True (cond (qcy (((((s)[i.toNat]?).getD 0).toNat) : Int)) (hd (r13_end_L0 s (IntKind.wrap .i64 (i + (1 : Int))) letters)) (rt (vi i) []))))) (rt (vi i) [])))))) (rt (vi i) [])) := by kernel_rfl
def byt (s : ByteArray) (i : Nat) : Int := ((((s[i]?).getD 0).toNat : Nat) : Int)
def allW (s : ByteArray) : Nat → Nat → Bool
 | 0, _ => true
 | n + 1, i => cond (wordF (byt s i)) (allW s n (i + 1)) false
def qge (s : ByteArray) : Bool := cond (decide ((s.size : Int) ≤ 24)) (cond (s.size == 0) false (cond (qdt (byt s 0)) false (allW s s.size 0))) false
def lexW (s : ByteArray) : Nat → Nat → Bool
 | 0, _ => cond (s.size == 0) false (decide ((s.size : Int) ≤ 24))
 | n + 1, i => cond (wordF (byt s i)) (cond (cond (i == 0) (qdt (byt s i)) false) false (lexW s n (i + 1))) false
theorem lexW_all (s : ByteArray) : ∀ (n i : Nat), i ≠ 0 → lexW s n i = cond (allW s n i) (cond (s.size == 0) false (decide ((s.size : Int) ≤ 24))) false
 | 0, i, _ => rfl
 | n + 1, i, h => by
  have hi : (i == 0) = false := by simpa using h
  simp only [lexW, allW, hi, lexW_all s n (i + 1) (by omega), cond_false]
  cases wordF (byt s i) <;> rfl
theorem ident_lex (s : ByteArray) : cond (decide ((s.size : Int) ≤ 24)) (lexW s s.size 0) false = qge s := by
 unfold qge
 cases h : s.size with
 | zero => simp [lexW, h]
 | succ n =>
  simp only [lexW, allW, lexW_all s n 1 (by omega), h]
  cases wordF (byt s 0) <;> cases qdt (byt s 0) <;> cases allW s n 1 <;> simp
theorem word_high {c : Int} (h : 128 ≤ c) : wordF c = false := by
 have h1 : qcy c = false := by
  rw [← Bool.not_eq_true]
  unfold qcy
  simp only [Bool.cond_eq_ite, decide_eq_true_eq]
  repeat' split
  all_goals simp
  all_goals omega
 have h2 : qdt c = false := by
  rw [← Bool.not_eq_true]
  unfold qdt
  simp only [Bool.cond_eq_ite, decide_eq_true_eq]
  repeat' split
  all_goals simp
  all_goals omega
 rw [wordF, h1, h2]
 rfl
theorem toList_nil (s : ByteArray) : (s.toList == ByteArray.empty.toList) = (s.size == 0) := by
 rw [ByteArray.toList_eq, ByteArray.toList_eq]
 show (s.data.toList == []) = (s.data.size == 0)
 obtain ⟨⟨l⟩⟩ := s
 cases l <;> rfl
theorem byt_at {s : ByteArray} {i : Nat} (h : i < s.size) : byt s i = ((s[i]'h).toNat : Int) := by
 unfold byt
 rw [getElem?_pos s i h]
 rfl
theorem byt_lt (s : ByteArray) (i : Nat) : 0 ≤ byt s i ∧ byt s i < 256 := by
 unfold byt
 have := ((s[i]?).getD 0).toNat_lt
 omega
theorem rune_low {s : ByteArray} {i : Nat} (h : i < s.size) (hb : byt s i < 128) : runeAt s i = byt s i ∧ runeW s i = 1 := by
 rw [byt_at h] at hb ⊢
 have := Go.decode_ascii s i h (by omega)
 unfold runeAt runeW
 rw [this]
 exact ⟨rfl, rfl⟩
theorem rune_high {s : ByteArray} {i : Nat} (h : i < s.size) (hb : ¬ byt s i < 128) : 128 ≤ runeAt s i := by
 rw [byt_at h] at hb
 have := (Go.decode_high s i h (by omega)).1
 unfold runeAt
 omega
theorem wrapU {c : Int} (h : 0 ≤ c ∧ c < 256) : IntKind.wrap .u8 c = c := by
 simp only [IntKind.wrap, IntKind.bits, IntKind.signed, Bool.false_and, Bool.false_eq_true, if_false]
 omega
def lexI (s : ByteArray) : Bool := lexW s s.size 0
theorem lexer_IsIdent_l (s : ByteArray) : ∀ i, i ≤ s.size → Runs E_V7 (qfc s s i) (fun r h => r = vb (lexW s (s.size - i) i) ∧ h = []) :=
 qba (.tree E_V7_ok (lexer_IsIdent_L0_t _ _ _) (by
  rw [Nat.sub_self, toList_nil, lexW]
  simp only [sS, sL,  Nat.lt_irrefl]
  cases s.size == 0 <;> simp))
  fun i hi ih => .tree E_V7_ok (lexer_IsIdent_L0_t _ _ _) (by
   rw [show s.size - i = (s.size - (i + 1)) + 1 by omega, lexW]
   simp only [sS, sL,  hi]
   by_cases hb : byt s i < 128
   ·obtain ⟨h1, h2⟩ := rune_low hi hb
    rw [h1, h2, wrapU (byt_lt s i)]
    have h3 : decide (byt s i ≥ 128) = false := by simpa using hb
    have h4 : ((i : Int) == 0) = (i == 0) := by rw [Bool.eq_iff_iff]; simp
    rw [h3, h4]
    cases wordF (byt s i) <;> cases qdt (byt s i) <;> cases i == 0 <;> simp <;> exact ih
   ·have h3 : decide (runeAt s i ≥ 128) = true := by simpa using rune_high hi hb
    rw [h3, word_high (by omega)]
    simp)
def k_lexer_IsIdent : Con := con [.d .str] .bool (fun x => True) fun x => lexI x.1
theorem m_lexer_IsIdent (s : ByteArray) (h_s : okD .str s) (hp : True) : Runs E_V7 (start E_V7 qdl [(vs s)]) (fun r_ h_ => r_ = (vb (lexI s)) ∧ h_ = []) := .tree E_V7_ok (lexer_IsIdent_t s) (by
 simp only [sS]
 exact lexer_IsIdent_l s 0 (Nat.zero_le _))
theorem c_lexer_IsIdent : qal E_V7 qdl k_lexer_IsIdent.spec := qam fun x hx hp => ⟨rfl, m_lexer_IsIdent x.1 hx.1 hp⟩
def endN (s : ByteArray) (l : Bool) : Nat → Nat → Nat
 | 0, i => i
 | n + 1, i => cond (qdt (byt s i)) (endN s l n (i + 1)) (cond l (cond (qcy (byt s i)) (endN s l n (i + 1)) i) i)
def endF (s : ByteArray) (i : Int) (l : Bool) : Int := (endN s l (s.size - i.toNat) i.toNat : Nat)
theorem endN_le (s : ByteArray) (l : Bool) : ∀ n i, endN s l n i ≤ i + n
 | 0, i => Nat.le_refl _
 | n + 1, i => by
  have := endN_le s l n (i + 1)
  unfold endN
  cases qdt (byt s i) <;> cases l <;> cases qcy (byt s i) <;> simp <;> omega
theorem endN_all (s : ByteArray) : ∀ n i, (endN s true n i == i + n) = allW s n i
 | 0, i => by simp [endN, allW]
 | n + 1, i => by
  have ih := endN_all s n (i + 1)
  have := endN_le s true n (i + 1)
  unfold endN allW wordF
  rw [show i + 1 + n = i + (n + 1) by omega] at ih
  cases qdt (byt s i) <;> cases qcy (byt s i) <;> simp <;> simpa using ih
theorem letter_digit (c : Int) : qcy c = cond (wordF c) (!qdt c) false := by
 unfold wordF qcy qdt
 rw [Bool.eq_iff_iff]
 simp only [Bool.cond_eq_ite, decide_eq_true_eq, beq_iff_eq]
 repeat' split
 all_goals simp_all
 all_goals omega
theorem r13_end_l (s : ByteArray) (l : Bool) (hs : s.size ≤ roomB) : ∀ i, i ≤ s.size → Runs E_V7 (r13_end_L0 s i l) (fun r h => r = vi (endN s l (s.size - i) i : Nat) ∧ h = []) :=
 qba (.tree E_V7_ok (r13_end_L0_t _ _ _) (by
  rw [Nat.sub_self, endN]
  simp only [sS, sL,  Nat.lt_irrefl]))
  fun i hi ih => .tree E_V7_ok (r13_end_L0_t _ _ _) (by
   rw [show s.size - i = (s.size - (i + 1)) + 1 by omega, endN]
   have hw : IntKind.wrap .i64 ((i : Int) + 1) = ((i + 1 : Nat) : Int) := wrapS hi (Nat.lt_of_le_of_lt hs (by decide))
   simp only [sS, sL,  hi, hw]
   show (qdt (byt s i) = true → _) ∧ (qdt (byt s i) = false → (l = true → (qcy (byt s i) = true → _) ∧ (qcy (byt s i) = false → _)) ∧ (l = false → _))
   cases qdt (byt s i) <;> cases l <;> cases qcy (byt s i) <;> simp <;> exact ih)
def k_r13_end : Con := con [.d .str, .d I, .d .bool] I (fun x => 0 ≤ z x.2.1 ∧ z x.2.1 ≤ (ByteArray.size x.1 : Int)) fun x => endF x.1 x.2.1 x.2.2.1
theorem m_r13_end (s : ByteArray) (i : Int) (letters : Bool) (h_s : okD .str s) (h_i : okD I i) (h_letters : okD .bool letters) (hp : 0 ≤ z i ∧ z i ≤ (ByteArray.size s : Int)) : Runs E_V7 (start E_V7 f_r13_end [(vs s), (vi i), (vb letters)]) (fun r_ h_ => r_ = (vi (endF s i letters)) ∧ h_ = []) := .tree E_V7_ok (r13_end_t s i letters) (by
 simp only [sS]
 have h1 : 0 ≤ i := hp.1
 have h2 : i ≤ (s.size : Int) := hp.2
 obtain ⟨n, rfl⟩ : ∃ n : Nat, i = n := ⟨i.toNat, by omega⟩
 exact r13_end_l s letters h_s n (by omega))
theorem c_r13_end : qal E_V7 f_r13_end k_r13_end.spec := qam fun x hx hp => ⟨rfl, m_r13_end x.1 x.2.1 x.2.2.1 hx.1 hx.2.1 hx.2.2.1 hp⟩
def L_V7 : List (FuncId × FSpec) := [(qdl, k_lexer_IsIdent.spec), (f_r13_end, k_r13_end.spec)] ++ L_V6
theorem L_V7_ok : ∀ x ∈ L_V7, qal (ctx []) x.1 x.2 := by
 unfold L_V7
 simp only [List.cons_append, List.nil_append, List.forall_mem_cons]
 exact ⟨c_lexer_IsIdent, c_r13_end, L_V6_ok⟩
end Burn.MTT
namespace Burn.MTT
open Go Go.BE Go.Proofs
set_option maxRecDepth 100000
set_option linter.unusedVariables false
set_option linter.unusedSimpArgs false
noncomputable abbrev E_V8 : Ctx := ctx L_V7
theorem E_V8_ok : EOK E_V8 := qbq L_V7_ok
def cuts_V8 : CutL := []
def rets_V8 : FuncId → List (Option Fx)
 | _ => []
def H_V8 : Hints := { cut := cutOf cuts_V8, ret := rets_V8 }
theorem r13_IsIdent_t (s : ByteArray) : run E_V8 H_V8 f_r13_IsIdent 3000 (start E_V8 f_r13_IsIdent [(vs s)]) = (cond (decide (((s).size : Int) ≥ (1 : Int))) (cond (decide (((s).size : Int) ≤ (24 : Int))) (.chk (0 ≤ (0 : Int) ∧ (0 : Int) < (s).size) (.chk (True) (.know True (cond (qcy (((((s)[(0 : Nat)]?).getD 0).toNat) : Int)) (.chk (0 ≤ z (0 : Int) ∧ z (0 : Int) ≤ (ByteArray.size s : Int)) (.know (okD (.int .i64) (endF s (0 : Int) true)) (rt (vb ((endF s (0 : Int) true) == ((s).size : Int))) []))) (rt (vb false) []))))) (rt (vb false) [])) (rt (vb false) [])) := by kernel_rfl
theorem verify_identifier_t (s : ByteArray) : run E_V8 H_V8 qdi 3000 (start E_V8 qdi [(vs s)]) = (cond (decide (((s).size : Int) ≤ (24 : Int))) (.chk (True) (.know True (rt (vb (lexI s)) []))) (rt (vb false) [])) := by kernel_rfl
theorem end_all (s : ByteArray) : (endF s 0 true == (s.size : Int)) = allW s s.size 0 := by
 have := endN_all s s.size 0
 rw [← this, Bool.eq_iff_iff]
 unfold endF
 simp
 omega
theorem ident_end (s : ByteArray) (h0 : decide ((s.size : Int) ≥ 1) = true) : cond (decide ((s.size : Int) ≤ 24)) (cond (qcy (byt s 0)) (endF s 0 true == (s.size : Int)) false) false = qge s := by
 have h0' := of_decide_eq_true h0
 have hz : (s.size == 0) = false := beq_eq_false_iff_ne.mpr (by omega)
 rw [end_all, letter_digit]
 unfold qge
 rw [hz]
 have hw : allW s s.size 0 = true → wordF (byt s 0) = true := by
  have : s.size = (s.size - 1) + 1 := by omega
  rw [this, allW]
  cases wordF (byt s 0) <;> simp
 cases hd : qdt (byt s 0) <;> cases ha : allW s s.size 0 <;> cases hq : wordF (byt s 0) <;> simp_all
theorem ident_none (s : ByteArray) (h0 : decide ((s.size : Int) ≥ 1) = false) : qge s = false := by
 have h0' := of_decide_eq_false h0
 have hz : (s.size == 0) = true := beq_iff_eq.mpr (by omega)
 unfold qge
 rw [hz]
 cases decide ((s.size : Int) ≤ 24) <;> rfl
theorem ident_len (s : ByteArray) : cond (decide ((s.size : Int) ≤ 24)) (qge s) false = qge s := by
 unfold qge
 cases decide ((s.size : Int) ≤ 24) <;> rfl

def k_r13_IsIdent : Con := con [.d .str] .bool (fun x => True) fun x => qge x.1
theorem m_r13_IsIdent (s : ByteArray) (h_s : okD .str s) (hp : True) : Runs E_V8 (start E_V8 f_r13_IsIdent [(vs s)]) (fun r_ h_ => r_ = (vb (qge s)) ∧ h_ = []) := .tree E_V8_ok (r13_IsIdent_t s) (by
 simp only [sS]
 refine ⟨fun h0 => ?_, fun h0 => congrArg vb (ident_none s h0).symm⟩
 rw [← ident_end s h0]
 refine ⟨fun h1 => ⟨⟨by decide, by have := of_decide_eq_true h0; omega⟩, fun _ => ?_⟩, fun h1 => ?_⟩
 ·rw [h1]
  show (qcy (byt s 0) = true → _) ∧ (qcy (byt s 0) = false → _)
  cases qcy (byt s 0)
  ·exact ⟨fun h => absurd h (by decide), fun _ => rfl⟩
  ·exact ⟨fun _ => ⟨⟨by decide, Int.natCast_nonneg _⟩, fun _ _ => rfl⟩, fun h => absurd h (by decide)⟩
 ·rw [h1]
  rfl)
theorem c_r13_IsIdent : qal E_V8 f_r13_IsIdent k_r13_IsIdent.spec := qam fun x hx hp => ⟨rfl, m_r13_IsIdent x.1 hx.1 hp⟩

def k_verify_identifier : Con := con [.d .str] .bool (fun x => True) fun x => qge x.1
theorem m_verify_identifier (s : ByteArray) (h_s : okD .str s) (hp : True) : Runs E_V8 (start E_V8 qdi [(vs s)]) (fun r_ h_ => r_ = (vb (qge s)) ∧ h_ = []) := .tree E_V8_ok (verify_identifier_t s) (by
 simp only [sS]
 rw [← ident_lex]
 cases decide ((s.size : Int) ≤ 24) <;> simp <;> rfl)
theorem c_verify_identifier : qal E_V8 qdi k_verify_identifier.spec := qam fun x hx hp => ⟨rfl, m_verify_identifier x.1 hx.1 hp⟩
def L_V8 : List (FuncId × FSpec) := [(f_r13_IsIdent, k_r13_IsIdent.spec), (qdi, k_verify_identifier.spec)] ++ L_V7
theorem L_V8_ok : ∀ x ∈ L_V8, qal (ctx []) x.1 x.2 := by
 unfold L_V8
 simp only [List.cons_append, List.nil_append, List.forall_mem_cons]
 exact ⟨c_r13_IsIdent, c_verify_identifier, L_V7_ok⟩
end Burn.MTT
namespace Burn.MTT
open Go Go.BE Go.Proofs
set_option maxRecDepth 100000
set_option linter.unusedVariables false
set_option linter.unusedSimpArgs false
noncomputable abbrev E_V9 : Ctx := ctx L_V8
theorem E_V9_ok : EOK E_V9 := qbq L_V8_ok
def cuts_V9 : CutL := [([], 63, 0, [1, 2, 7, 8, 9], [], []),
 ([], 74, 0, [2, 3, 4, 8, 9, 10], [], [])]
def rets_V9 : FuncId → List (Option Fx)
 | _ => []
def H_V9 : Hints := { cut := cutOf cuts_V9, ret := rets_V9 }
theorem r14_ident_t (s : ByteArray) : run E_V9 H_V9 f_r14_ident 3000 (start E_V9 f_r14_ident [(vs s)]) = (cond (decide (((s).size : Int) ≤ (24 : Int))) (.chk (True) (.know True (rt (vb (qge s)) []))) (rt (vb false) [])) := by kernel_rfl
noncomputable def qht (l : List (Den I)) (at_ : Den qak) (f : Den qab) (t8 : List (Den I)) (t9 : Int) (t10 : Int) : Cfg := hcfg E_V9 qdh 0 [(2, (.tv (.sl 8 I) l)), (3, (.rtp qak at_)), (4, (.rtp qab f)), (8, (.tv (.sl 8 I) t8)), (9, (vi t9)), (10, (vi t10))] [] 0
theorem verify_params_t (at_ : Den qak) (f : Den qab) (l : List (Den I)) : run E_V9 H_V9 qdh 3000 (start E_V9 qdh [(.tv qak at_), (.tv qab f), (.tv (.sl 8 I) l)]) = (hd (qht l at_ f l ((ln I l) : Int) (0 : Int))) := by kernel_rfl
theorem verify_params_L0_t (l : List (Den I)) (at_ : Den qak) (f : Den qab) (t8 : List (Den I)) (t9 : Int) (t10 : Int) : run E_V9 H_V9 qdh 3000 (qht l at_ f t8 t9 t10) = (cond (decide (t10 < t9)) (.chk (0 ≤ t10 ∧ t10 < (ln I t8)) (.chk (True) (.know True (cond (!(regP f (gd I t8 t10.toNat))) (pn (.val (.iface 106 (.agg #[.int .i64 (10 : Int), .int .i64 (z at_.1), .int .i64 (z at_.2.1), .int .i64 (z at_.2.2.1), .int .i64 (z at_.2.2.2.1)])))) (.chk (0 ≤ (0 : Int) ∧ (0 : Int) ≤ t10 ∧ t10 ≤ ((ln I l) : Int)) (.chk (True) (.know True (cond (!(!(hasI (wn I l (0 : Nat) (t10.toNat - (0 : Nat))) (gd I t8 t10.toNat)))) (pn (.val (.iface 106 (.agg #[.int .i64 (7 : Int), .int .i64 (z at_.1), .int .i64 (z at_.2.1), .int .i64 (z at_.2.2.1), .int .i64 (z at_.2.2.2.1)])))) (hd (qht l at_ f t8 t9 (IntKind.wrap .i64 (t10 + (1 : Int))))))))))))) (rt (.tup []) [])) := by kernel_rfl
noncomputable def r14_params_L0 (l : List (Den I)) (f : Den qab) (t7 : List (Den I)) (t8 : Int) (t9 : Int) : Cfg := hcfg E_V9 qgi 0 [(1, (.tv (.sl 8 I) l)), (2, (.rtp qab f)), (7, (.tv (.sl 8 I) t7)), (8, (vi t8)), (9, (vi t9))] [] 0
theorem r14_params_t (f : Den qab) (l : List (Den I)) : run E_V9 H_V9 qgi 3000 (start E_V9 qgi [(.tv qab f), (.tv (.sl 8 I) l)]) = (hd (r14_params_L0 l f l ((ln I l) : Int) (0 : Int))) := by kernel_rfl
theorem r14_params_L0_t (l : List (Den I)) (f : Den qab) (t7 : List (Den I)) (t8 : Int) (t9 : Int) : run E_V9 H_V9 qgi 3000 (r14_params_L0 l f t7 t8 t9) = (cond (decide (t9 < t8)) (.chk (0 ≤ t9 ∧ t9 < (ln I t7)) (.chk (True) (.know True (cond (!(regP f (gd I t7 t9.toNat))) (rt (vi (10 : Int)) []) (.chk (0 ≤ (0 : Int) ∧ (0 : Int) ≤ t9 ∧ t9 ≤ ((ln I l) : Int)) (.chk (True) (.know True (cond (hasI (wn I l (0 : Nat) (t9.toNat - (0 : Nat))) (gd I t7 t9.toNat)) (rt (vi (7 : Int)) []) (hd (r14_params_L0 l f t7 t8 (IntKind.wrap .i64 (t9 + (1 : Int))))))))))))) (rt (vi (0 : Int)) [])) := by kernel_rfl

def k_r14_ident : Con := con [.d .str] .bool (fun x => True) fun x => qge x.1
theorem m_r14_ident (s : ByteArray) (h_s : okD .str s) (hp : True) : Runs E_V9 (start E_V9 f_r14_ident [(vs s)]) (fun r_ h_ => r_ = (vb (qge s)) ∧ h_ = []) := .tree E_V9_ok (r14_ident_t s) (by
 simp only [sS]
 conv => rhs; rw [← ident_len]
 cases decide ((s.size : Int) ≤ 24) <;> simp)
theorem c_r14_ident : qal E_V9 f_r14_ident k_r14_ident.spec := qam fun x hx hp => ⟨rfl, m_r14_ident x.1 hx.1 hp⟩
def atD (p : Plc) (e : Int) : Dg := (e, p.1, p.2.1, p.2.2.1, p.2.2.2.1, ())
def qap (e : Nat → Int) : Nat → Nat → Int
 | 0, _ => 0
 | n + 1, i => cond (e i == 0) (qap e n (i + 1)) (e i)
def parI (f : Fn) (l : List (Den I)) (i : Nat) : Int := cond (!(regP f (gd I l i))) 10 (cond (hasI (wn I l 0 i) (gd I l i)) 7 0)
def parE (f : Fn) (l : List (Den I)) : Int := qap (parI f l) (ln I l) 0
def parF (p : Plc) (f : Fn) (l : List (Den I)) : Dg := atD p (parE f l)
def dgV (d : Dg) : Value := .agg #[.int .i64 d.1, .int .i64 d.2.1, .int .i64 d.2.2.1, .int .i64 d.2.2.2.1, .int .i64 d.2.2.2.2.1]
def ifD (d : Dg) : AV := .val (.iface 106 (dgV d))
def PanD (E : Ctx) (c : Cfg) (d : Dg) : Prop := RunsP E c (fun r h => r = .tup [] ∧ h = [] ∧ errB d = false) (fun r => r = ifD d ∧ errB d = true)
def RetI (E : Ctx) (c : Cfg) (e : Int) : Prop := Runs E c (fun r h => r = vi e ∧ h = [])
theorem sub1 {n i : Nat} (h : i < n) : n - i = (n - (i + 1)) + 1 := by omega
theorem first_hit {e : Nat → Int} {n i : Nat} (h : e i ≠ 0) : qap e (n + 1) i = e i := by
 rw [qap, beq_eq_false_iff_ne.mpr h]; rfl
theorem qil {e : Nat → Int} {n i : Nat} (h : e i = 0) : qap e (n + 1) i = qap e n (i + 1) := by
 rw [qap, h]; rfl
theorem PanD.hit {e : Nat → Int} {n i : Nat} {p : Plc} {x : Int} {r : AV} (h : e i = x) (hx : x ≠ 0) (hr : r = ifD (atD p x)) : r = ifD (atD p (qap e (n + 1) i)) ∧ errB (atD p (qap e (n + 1) i)) = true := by
 subst hr
 rw [first_hit (by rw [h]; exact hx), h]
 refine ⟨rfl, ?_⟩
 show (!(x == 0)) = true
 simpa using hx
theorem PanD.miss {E : Ctx} {c : Cfg} {e : Nat → Int} {n i : Nat} {p : Plc} (h : e i = 0) (ih : PanD E c (atD p (qap e n (i + 1)))) : PanD E c (atD p (qap e (n + 1) i)) := by
 rw [qil h]; exact ih
theorem RetI.hit {e : Nat → Int} {n i : Nat} {x : Int} (h : e i = x) (hx : x ≠ 0) : vi x = vi (qap e (n + 1) i) := by
 rw [first_hit (by rw [h]; exact hx), h]
theorem RetI.miss {E : Ctx} {c : Cfg} {e : Nat → Int} {n i : Nat} (h : e i = 0) (ih : RetI E c (qap e n (i + 1))) : RetI E c (qap e (n + 1) i) := by
 rw [qil h]; exact ih
theorem verify_params_l (p : Plc) (f : Fn) (l : List (Den I)) (hl : ln I l < 9223372036854775807) : ∀ i, i ≤ ln I l → PanD E_V9 (qht l p f l (ln I l : Nat) i) (atD p (qap (parI f l) (ln I l - i) i)) :=
 qba (RunsP.tree E_V9_ok (verify_params_L0_t _ _ _ _ _ _) (by
  rw [Nat.sub_self]
  simp only [sQ, sL,  Nat.lt_irrefl]
  rfl))
  fun i hi ih => RunsP.tree E_V9_ok (verify_params_L0_t _ _ _ _ _ _) (by
   rw [sub1 hi]
   simp only [sQ, sL,  hi, wrapS hi hl, Nat.sub_zero]
   refine ⟨fun h1 => PanD.hit (x := 10) (by simp only [parI, h1, cond_true]) (by decide) rfl, fun h1 => ⟨⟨by decide, by omega⟩, fun _ => ⟨fun h2 => PanD.hit (x := 7) (by simp [parI, h1, show hasI (wn I l 0 i) (gd I l i) = _ from by simpa using h2]) (by decide) rfl, fun h2 => PanD.miss (by simp [parI, h1, show hasI (wn I l 0 i) (gd I l i) = _ from by simpa using h2]) ih⟩⟩⟩)
def k_verify_params : ConP := ⟨[.d qak, .d qab, .d (.sl 8 I)], fun x => True, fun x => errB (parF x.1 x.2.1 x.2.2.1), fun x => ifD (parF x.1 x.2.1 x.2.2.1)⟩
theorem m_verify_params (at_ : Den qak) (f : Den qab) (l : List (Den I)) (h_at_ : okD qak at_) (h_f : okD qab f) (h_l : okD (.sl 8 I) l) (hp : True) : RunsP E_V9 (start E_V9 qdh [(.tv qak at_), (.tv qab f), (.tv (.sl 8 I) l)]) (fun r_ h_ => r_ = .tup [] ∧ h_ = [] ∧ errB (parF at_ f l) = false) (fun r_ => r_ = ifD (parF at_ f l) ∧ errB (parF at_ f l) = true) := .tree E_V9_ok (verify_params_t at_ f l) (by
 simp only [sQ]
 exact verify_params_l at_ f l (qas h_l.1) 0 (Nat.zero_le _))
theorem c_verify_params : qal E_V9 qdh k_verify_params.spec := spec_ofP fun x hx hp => ⟨rfl, m_verify_params x.1 x.2.1 x.2.2.1 hx.1 hx.2.1 hx.2.2.1 hp⟩
theorem r14_params_l (f : Fn) (l : List (Den I)) (hl : ln I l < 9223372036854775807) : ∀ i, i ≤ ln I l → RetI E_V9 (r14_params_L0 l f l (ln I l : Nat) i) (qap (parI f l) (ln I l - i) i) :=
 qba (.tree E_V9_ok (r14_params_L0_t _ _ _ _ _) (by
  rw [Nat.sub_self]
  simp only [sS, sL,  Nat.lt_irrefl, qap]))
  fun i hi ih => .tree E_V9_ok (r14_params_L0_t _ _ _ _ _) (by
   rw [sub1 hi]
   simp only [sS, sL,  hi, wrapS hi hl, Nat.sub_zero]
   refine ⟨fun h1 => RetI.hit (x := 10) (by simp only [parI, h1, cond_true]) (by decide), fun h1 => ⟨⟨by decide, by omega⟩, fun _ => ⟨fun h2 => RetI.hit (x := 7) (by simp [parI, h1, show hasI (wn I l 0 i) (gd I l i) = _ from by simpa using h2]) (by decide), fun h2 => RetI.miss (by simp [parI, h1, show hasI (wn I l 0 i) (gd I l i) = _ from by simpa using h2]) ih⟩⟩⟩)
def k_r14_params : Con := con [.d qab, .d (.sl 8 I)] I (fun x => True) fun x => parE x.1 x.2.1
theorem m_r14_params (f : Den qab) (l : List (Den I)) (h_f : okD qab f) (h_l : okD (.sl 8 I) l) (hp : True) : Runs E_V9 (start E_V9 qgi [(.tv qab f), (.tv (.sl 8 I) l)]) (fun r_ h_ => r_ = (vi (parE f l)) ∧ h_ = []) := .tree E_V9_ok (r14_params_t f l) (by
 simp only [sS]
 exact r14_params_l f l (qas h_l.1) 0 (Nat.zero_le _))
theorem c_r14_params : qal E_V9 qgi k_r14_params.spec := qam fun x hx hp => ⟨rfl, m_r14_params x.1 x.2.1 hx.1 hx.2.1 hp⟩
def L_V9 : List (FuncId × FSpec) := [(f_r14_ident, k_r14_ident.spec), (qdh, k_verify_params.spec), (qgi, k_r14_params.spec)] ++ L_V8
theorem L_V9_ok : ∀ x ∈ L_V9, qal (ctx []) x.1 x.2 := by
 unfold L_V9
 simp only [List.cons_append, List.nil_append, List.forall_mem_cons]
 exact ⟨c_r14_ident, c_verify_params, c_r14_params, L_V8_ok⟩
end Burn.MTT
namespace Burn.MTT
open Go Go.BE Go.Proofs
set_option maxRecDepth 100000
set_option linter.unusedVariables false
set_option linter.unusedSimpArgs false
noncomputable abbrev E_V10 : Ctx := ctx L_V9
theorem E_V10_ok : EOK E_V10 := qbq L_V9_ok
def cuts_V10 : CutL := [([], 36, 0, [2, 13, 14, 15], [(.t 2, .own 16 .str)], []),
 ([], 36, 2, [2, 4, 5, 13, 14, 15, 74, 75, 76], [], []),
 ([], 61, 0, [5, 22, 23, 24], [], []),
 ([], 61, 2, [5, 62, 63, 64], [], [])]
def rets_V10 : FuncId → List (Option Fx)
 | _ => []
def H_V10 : Hints := { cut := cutOf cuts_V10, ret := rets_V10 }
noncomputable def qee (t13 : List (Den qaf)) (t14 : Int) (t15 : Int) (names : List (Den .str)) : Cfg := hcfg E_V10 qcb 0 [(2, (.osl 0 0 [] none)), (13, (.tv (.sl 64 qaf) t13)), (14, (vi t14)), (15, (vi t15))] [(0, ⟨(.arr 0 16 .str names), 0, [], false, none⟩)] 1
noncomputable def qcq (t13 : List (Den qaf)) (t14 : Int) (t15 : Int) (t74 : List (Den I)) (t75 : Int) (t76 : Int) (names : List (Den .str)) (g_0 : ByteArray) (g_1 : Int) (g_2 : Int) (g_3 : List (Den I)) (g_4 : Bool) (at_ : Den qak) : Cfg := hcfg E_V10 qcb 2 [(2, (.osl 0 0 [] none)), (4, (.ref 1 0)), (5, (.tref 2 2 [] (0 : Nat) [])), (13, (.tv (.sl 64 qaf) t13)), (14, (vi t14)), (15, (vi t15)), (74, (.tv (.sl 8 I) t74)), (75, (vi t75)), (76, (vi t76))] [(0, ⟨(.arr 0 16 .str names), 0, [], false, none⟩), (1, ⟨(.cells [(vs g_0), (vi g_1), (vi g_2), (.tv (.sl 8 I) g_3), (vb g_4)]), 1, [], false, none⟩), (2, ⟨(.arr 0 32 qak ([at_] : List (Den qak))), 2, [], false, none⟩)] 3
theorem verify_globals_t (l : List (Den qaf)) : run E_V10 H_V10 qcb 3000 (start E_V10 qcb [(.tv (.sl 64 qaf) l)]) = (cond (!(decide (((ln qaf l) : Int) ≤ (32 : Int)))) (pn (.val (.iface 106 (.agg #[.int .i64 (11 : Int), .int .i64 (1 : Int), .int .i64 (-1 : Int), .int .i64 (-1 : Int), .int .i64 (-1 : Int)])))) (hd (qee l ((ln qaf l) : Int) (0 : Int) ([] : List (Den .str))))) := by kernel_rfl
theorem verify_globals_L0_t (t13 : List (Den qaf)) (t14 : Int) (t15 : Int) (names : List (Den .str)) : run E_V10 H_V10 qcb 3000 (qee t13 t14 t15 names) = (cond (decide (t15 < t14)) (.chk (0 ≤ t15 ∧ t15 < (ln qaf t13)) (.chk ((0 : Nat) < (1 : Nat)) (.chk ((0 : Nat) < (1 : Nat)) (.chk (True) (.know True (cond (!(qge (gd qaf t13 t15.toNat).1)) (pn (.val (.iface 106 (.agg #[.int .i64 (6 : Int), .int .i64 (1 : Int), .int .i64 t15, .int .i64 (-1 : Int), .int .i64 (-1 : Int)])))) (.chk ((0 : Nat) < (1 : Nat)) (.chk (True) (.know True (cond (!(!(hasS names (gd qaf t13 t15.toNat).1))) (pn (.val (.iface 106 (.agg #[.int .i64 (7 : Int), .int .i64 (1 : Int), .int .i64 t15, .int .i64 (-1 : Int), .int .i64 (-1 : Int)])))) (.chk (((ln .str names) + (1 : Nat)) * 16 ≤ roomB) (.chk ((0 : Nat) < (1 : Nat)) (.chk (True) (.know True (cond (!(celP (gd qaf t13 t15.toNat).2.1)) (pn (.val (.iface 106 (.agg #[.int .i64 (9 : Int), .int .i64 (1 : Int), .int .i64 t15, .int .i64 (-1 : Int), .int .i64 (-1 : Int)])))) (.chk ((0 : Nat) < (1 : Nat)) (cond (decide ((z ((gd qaf t13 t15.toNat).2.2.1)) ≥ (1 : Int))) (cond (!(decide ((z ((gd qaf t13 t15.toNat).2.2.1)) ≤ (256 : Int)))) (pn (.val (.iface 106 (.agg #[.int .i64 (10 : Int), .int .i64 (1 : Int), .int .i64 t15, .int .i64 (-1 : Int), .int .i64 (-1 : Int)])))) (.chk ((0 : Nat) < (1 : Nat)) (cond (!(decide (((ln I ((gd qaf t13 t15.toNat).2.2.2.1)) : Int) ≤ (z ((gd qaf t13 t15.toNat).2.2.1))))) (pn (.val (.iface 106 (.agg #[.int .i64 (5 : Int), .int .i64 (1 : Int), .int .i64 t15, .int .i64 (-1 : Int), .int .i64 (-1 : Int)])))) (.chk ((0 : Nat) < (1 : Nat)) (cond ((z ((gd qaf t13 t15.toNat).2.1)) != (5 : Int)) (hd (qcq t13 t14 t15 ((gd qaf t13 t15.toNat).2.2.2.1) ((ln I ((gd qaf t13 t15.toNat).2.2.2.1)) : Int) (0 : Int) (ap .str names ([(gd qaf t13 t15.toNat).1] : List (Den .str))) (tOf ((gd qaf t13 t15.toNat).1)) (z ((gd qaf t13 t15.toNat).2.1)) (z ((gd qaf t13 t15.toNat).2.2.1)) ((gd qaf t13 t15.toNat).2.2.2.1) (bOf ((gd qaf t13 t15.toNat).2.2.2.2.1)) ((1 : Int), t15, (-1 : Int), (-1 : Int), ()))) (cond (!(((ln I ((gd qaf t13 t15.toNat).2.2.2.1)) : Int) == (0 : Int))) (pn (.val (.iface 106 (.agg #[.int .i64 (9 : Int), .int .i64 (1 : Int), .int .i64 t15, .int .i64 (-1 : Int), .int .i64 (-1 : Int)])))) (hd (qcq t13 t14 t15 ((gd qaf t13 t15.toNat).2.2.2.1) ((ln I ((gd qaf t13 t15.toNat).2.2.2.1)) : Int) (0 : Int) (ap .str names ([(gd qaf t13 t15.toNat).1] : List (Den .str))) (tOf ((gd qaf t13 t15.toNat).1)) (z ((gd qaf t13 t15.toNat).2.1)) (z ((gd qaf t13 t15.toNat).2.2.1)) ((gd qaf t13 t15.toNat).2.2.2.1) (bOf ((gd qaf t13 t15.toNat).2.2.2.2.1)) ((1 : Int), t15, (-1 : Int), (-1 : Int), ()))))))))) (pn (.val (.iface 106 (.agg #[.int .i64 (10 : Int), .int .i64 (1 : Int), .int .i64 t15, .int .i64 (-1 : Int), .int .i64 (-1 : Int)]))))))))))))))))))))) (rt (.tup []) [])) := by kernel_rfl
theorem verify_globals_L2_t (t13 : List (Den qaf)) (t14 : Int) (t15 : Int) (t74 : List (Den I)) (t75 : Int) (t76 : Int) (names : List (Den .str)) (g_0 : ByteArray) (g_1 : Int) (g_2 : Int) (g_3 : List (Den I)) (g_4 : Bool) (at_ : Den qak) : run E_V10 H_V10 qcb 3000 (qcq t13 t14 t15 t74 t75 t76 names g_0 g_1 g_2 g_3 g_4 at_) = (cond (decide (t76 < t75)) (.chk (0 ≤ t76 ∧ t76 < (ln I t74)) (.chk ((0 : Nat) < (1 : Nat)) (.chk (True) (.know True (cond (!(fitP g_1 (gd I t74 t76.toNat))) (pn (.val (.iface 106 (.agg #[.int .i64 (10 : Int), .int .i64 (z at_.1), .int .i64 (z at_.2.1), .int .i64 (z at_.2.2.1), .int .i64 (z at_.2.2.2.1)])))) (hd (qcq t13 t14 t15 t74 t75 (IntKind.wrap .i64 (t76 + (1 : Int))) names g_0 g_1 g_2 g_3 g_4 at_))))))) (hd (qee t13 t14 (IntKind.wrap .i64 (t15 + (1 : Int))) names))) := by kernel_rfl
noncomputable def r14_global_L0 (t22 : List (Den qaf)) (t23 : Int) (t24 : Int) (g_0 : ByteArray) (g_1 : Int) (g_2 : Int) (g_3 : List (Den I)) (g_4 : Bool) : Cfg := hcfg E_V10 qdr 0 [(5, (.ref 0 0)), (22, (.tv (.sl 64 qaf) t22)), (23, (vi t23)), (24, (vi t24))] [(0, ⟨(.cells [(vs g_0), (vi g_1), (vi g_2), (.tv (.sl 8 I) g_3), (vb g_4)]), 0, [], false, none⟩)] 1
noncomputable def qew (t62 : List (Den I)) (t63 : Int) (t64 : Int) (g_0 : ByteArray) (g_1 : Int) (g_2 : Int) (g_3 : List (Den I)) (g_4 : Bool) : Cfg := hcfg E_V10 qdr 2 [(5, (.ref 0 0)), (62, (.tv (.sl 8 I) t62)), (63, (vi t63)), (64, (vi t64))] [(0, ⟨(.cells [(vs g_0), (vi g_1), (vi g_2), (.tv (.sl 8 I) g_3), (vb g_4)]), 0, [], false, none⟩)] 1
theorem r14_global_t (m : Den qad) (i : Int) : run E_V10 H_V10 qdr 3000 (start E_V10 qdr [(.tv qad m), (vi i)]) = (.chk (0 ≤ i ∧ i < (ln qaf m.1)) (.chk (True) (.know True (cond (!(qge (gd qaf m.1 i.toNat).1)) (rt (vi (6 : Int)) []) (.chk (0 ≤ (0 : Int) ∧ (0 : Int) ≤ i ∧ i ≤ ((ln qaf m.1) : Int)) (hd (r14_global_L0 (wn qaf m.1 (0 : Nat) (i.toNat - (0 : Nat))) ((ln qaf (wn qaf m.1 (0 : Nat) (i.toNat - (0 : Nat)))) : Int) (0 : Int) (tOf ((gd qaf m.1 i.toNat).1)) (z ((gd qaf m.1 i.toNat).2.1)) (z ((gd qaf m.1 i.toNat).2.2.1)) ((gd qaf m.1 i.toNat).2.2.2.1) (bOf ((gd qaf m.1 i.toNat).2.2.2.2.1))))))))) := by kernel_rfl
theorem r14_global_L0_t (t22 : List (Den qaf)) (t23 : Int) (t24 : Int) (g_0 : ByteArray) (g_1 : Int) (g_2 : Int) (g_3 : List (Den I)) (g_4 : Bool) : run E_V10 H_V10 qdr 3000 (r14_global_L0 t22 t23 t24 g_0 g_1 g_2 g_3 g_4) = (cond (decide (t24 < t23)) (.chk (0 ≤ t24 ∧ t24 < (ln qaf t22)) (cond (((tOf ((gd qaf t22 t24.toNat).1))).toList == (g_0).toList) (rt (vi (7 : Int)) []) (hd (r14_global_L0 t22 t23 (IntKind.wrap .i64 (t24 + (1 : Int))) g_0 g_1 g_2 g_3 g_4)))) (.chk (True) (.know True (cond (!(celP g_1)) (rt (vi (9 : Int)) []) (cond (decide (g_2 < (1 : Int))) (rt (vi (10 : Int)) []) (cond (decide (g_2 > (256 : Int))) (rt (vi (10 : Int)) []) (cond (decide (((ln I g_3) : Int) > g_2)) (rt (vi (5 : Int)) []) (cond (g_1 == (5 : Int)) (cond (decide (((ln I g_3) : Int) > (0 : Int))) (rt (vi (9 : Int)) []) (hd (qew g_3 ((ln I g_3) : Int) (0 : Int) g_0 g_1 g_2 g_3 g_4))) (hd (qew g_3 ((ln I g_3) : Int) (0 : Int) g_0 g_1 g_2 g_3 g_4)))))))))) := by kernel_rfl
theorem r14_global_L2_t (t62 : List (Den I)) (t63 : Int) (t64 : Int) (g_0 : ByteArray) (g_1 : Int) (g_2 : Int) (g_3 : List (Den I)) (g_4 : Bool) : run E_V10 H_V10 qdr 3000 (qew t62 t63 t64 g_0 g_1 g_2 g_3 g_4) = (cond (decide (t64 < t63)) (.chk (0 ≤ t64 ∧ t64 < (ln I t62)) (.chk (True) (.know True (cond (!(fitP g_1 (gd I t62 t64.toNat))) (rt (vi (10 : Int)) []) (hd (qew t62 t63 (IntKind.wrap .i64 (t64 + (1 : Int))) g_0 g_1 g_2 g_3 g_4)))))) (rt (vi (0 : Int)) [])) := by kernel_rfl
theorem onP {P Q : Prop} (h : P → Q) : P → Q := h
def noD : Dg := ((0 : Int), (0 : Int), (0 : Int), (0 : Int), (0 : Int), ())
def orD (a b : Dg) : Dg := cond (errB a) a b
def qco (d : Nat → Dg) : Nat → Nat → Dg
 | 0, _ => noD
 | n + 1, i => orD (d i) (qco d n (i + 1))
theorem errAt {p : Plc} {x : Int} : errB (atD p x) = !(x == 0) := rfl
theorem or_hit {a b : Dg} (h : errB a = true) : orD a b = a := by rw [orD, h]; rfl
theorem qdw {a b : Dg} (h : errB a = false) : orD a b = b := by rw [orD, h]; rfl
theorem thr {d x : Dg} {r : AV} (h : d = x) (hx : errB x = true) (hr : r = ifD x) : r = ifD d ∧ errB d = true := by subst h; exact ⟨hr, hx⟩
theorem thr_fd {D : Nat → Dg} {n i : Nat} {p : Plc} {x : Int} {r : AV} (h : D i = atD p x) (hx : (x == 0) = false) (hr : r = ifD (atD p x)) : r = ifD (qco D (n + 1) i) ∧ errB (qco D (n + 1) i) = true := by
 have he : errB (D i) = true := by rw [h, errAt, hx]; rfl
 rw [qco, or_hit he]
 exact thr h (by rw [errAt, hx]; rfl) hr
theorem thr_or {a b : Dg} {r : AV} (h : r = ifD a ∧ errB a = true) : r = ifD (orD a b) ∧ errB (orD a b) = true := by rw [or_hit h.2]; exact h
theorem at_zero {p : Plc} : errB (atD p 0) = false := rfl
def fitI (t : Int) (l : List (Den I)) (k : Nat) : Int := cond (!(fitP t (gd I l k))) 10 0
def fitE (t : Int) (l : List (Den I)) : Int := qap (fitI t l) (ln I l) 0
def namG (l : List Glob) (i : Nat) : List (Den .str) := (l.take i).map fun g => g.1
theorem namG_ln {l : List Glob} {i : Nat} (h : i ≤ ln qaf l) : ln .str (namG l i) = i := by
 show ((l.take i).map _).length = i
 rw [List.length_map, List.length_take]
 exact Nat.min_eq_left h
theorem namG_ap {l : List Glob} {i : Nat} (h : i < ln qaf l) : ap .str (namG l i) ([(gd qaf l i).1] : List (Den .str)) = namG l (i + 1) := by
 show (l.take i).map _ ++ [_] = (l.take (i + 1)).map _
 rw [List.take_succ_eq_append_getElem h, List.map_append]
 refine congrArg (fun x => _ ++ [x]) ?_
 have hq : l[i]? = some l[i] := List.getElem?_eq_getElem h
 simp [gd, hq]
def gloI (l : List Glob) (i : Nat) : Int :=
 cond (!(qge (gd qaf l i).1)) 6 (cond (!(!(hasS (namG l i) (gd qaf l i).1))) 7 (cond (!(celP (gd qaf l i).2.1)) 9
  (cond (decide (z (gd qaf l i).2.2.1 ≥ (1 : Int))) (cond (!(decide (z (gd qaf l i).2.2.1 ≤ (256 : Int)))) 10 (cond (!(decide ((ln I (gd qaf l i).2.2.2.1 : Int) ≤ z (gd qaf l i).2.2.1))) 5
   (cond (z (gd qaf l i).2.1 != (5 : Int)) (fitE (z (gd qaf l i).2.1) (gd qaf l i).2.2.2.1) (cond (!((ln I (gd qaf l i).2.2.2.1 : Int) == (0 : Int))) 9 (fitE (z (gd qaf l i).2.1) (gd qaf l i).2.2.2.1))))) 10)))
def plG (i : Nat) : Plc := ((1 : Int), (i : Int), (-1 : Int), (-1 : Int), ())
def gloD (l : List Glob) : Dg := cond (!(decide ((ln qaf l : Int) ≤ 32))) (atD ((1 : Int), (-1 : Int), (-1 : Int), (-1 : Int), ()) 11) (qco (fun i => atD (plG i) (gloI l i)) (ln qaf l) 0)
theorem verify_globals_l2 (l : List Glob) (i : Nat) (nm : List (Den .str)) (g0 : ByteArray) (g1 g2 : Int) (g3 : List (Den I)) (g4 : Bool) (p : Plc) (d : Dg) (hi : i < ln qaf l) (hl : ln qaf l < 9223372036854775807) (h3 : ln I g3 < 9223372036854775807)
  (ih : PanD E_V10 (qee l (ln qaf l : Nat) (i + 1 : Nat) nm) d) : ∀ k, k ≤ ln I g3 → PanD E_V10 (qcq l (ln qaf l : Nat) i g3 (ln I g3 : Nat) k nm g0 g1 g2 g3 g4 p) (orD (atD p (qap (fitI g1 g3) (ln I g3 - k) k)) d) :=
 qba (RunsP.tree E_V10_ok (verify_globals_L2_t _ _ _ _ _ _ _ _ _ _ _ _ _) (by
  rw [Nat.sub_self]
  simp only [sQ, sL,  Nat.lt_irrefl, wrapS hi hl]
  exact ih))
  fun k hk ihk => RunsP.tree E_V10_ok (verify_globals_L2_t _ _ _ _ _ _ _ _ _ _ _ _ _) (by
   rw [sub1 hk]
   simp only [sQ, sL,  hk, wrapS hk h3]
   refine ⟨fun h1 => thr_or (PanD.hit (x := 10) (by simp only [fitI, h1, cond_true]) (by decide) rfl), fun h1 => ?_⟩
   rw [qil (by simp only [fitI, h1, cond_false])]
   exact ihk)
theorem verify_globals_l0 (l : List Glob) (h32 : (ln qaf l : Int) ≤ 32) (hx : okD (.sl 64 qaf) l) : ∀ i, i ≤ ln qaf l → PanD E_V10 (qee l (ln qaf l : Nat) i (namG l i)) (qco (fun i => atD (plG i) (gloI l i)) (ln qaf l - i) i) :=
 qba (RunsP.tree E_V10_ok (verify_globals_L0_t _ _ _ _) (by
  rw [Nat.sub_self]
  simp only [sQ, sL,  Nat.lt_irrefl]
  rfl))
  fun i hi ih => RunsP.tree E_V10_ok (verify_globals_L0_t _ _ _ _) (by
   have hgo := ok_gd hx hi
   have hh : ∀ hk : ln I (gd qaf l i).2.2.2.1 < 9223372036854775807, PanD E_V10 (qcq l (ln qaf l : Nat) i (gd qaf l i).2.2.2.1 (ln I (gd qaf l i).2.2.2.1 : Nat) (0 : Nat) (namG l (i + 1)) (tOf (gd qaf l i).1) (z (gd qaf l i).2.1) (z (gd qaf l i).2.2.1) (gd qaf l i).2.2.2.1 (bOf (gd qaf l i).2.2.2.2.1) (plG i)) (orD (atD (plG i) (fitE (z (gd qaf l i).2.1) (gd qaf l i).2.2.2.1)) _) :=
    fun hk => verify_globals_l2 l i (namG l (i + 1)) (tOf (gd qaf l i).1) (z (gd qaf l i).2.1) (z (gd qaf l i).2.2.1) (gd qaf l i).2.2.2.1 (bOf (gd qaf l i).2.2.2.2.1) (plG i) _ hi (by omega) hk ih 0 (Nat.zero_le _)
   replace hh := hh (qas hgo.2.2.2.1.1)
   rw [sub1 hi]
   simp only [sQ, sL,  hi, wrapS hi (show ln qaf l < 9223372036854775807 by omega), namG_ln (Nat.le_of_lt hi), namG_ap hi]
   have go : gloI l i = fitE (z (gd qaf l i).2.1) (gd qaf l i).2.2.2.1 → PanD E_V10 (qcq l (ln qaf l : Nat) i (gd qaf l i).2.2.2.1 (ln I (gd qaf l i).2.2.2.1 : Nat) (0 : Nat) (namG l (i + 1)) (tOf (gd qaf l i).1) (z (gd qaf l i).2.1) (z (gd qaf l i).2.2.1) (gd qaf l i).2.2.2.1 (bOf (gd qaf l i).2.2.2.2.1) (plG i)) (qco (fun i => atD (plG i) (gloI l i)) ((ln qaf l - (i + 1)) + 1) i) := by
    intro hg
    show PanD _ _ (orD (atD (plG i) (gloI l i)) _)
    rw [hg]
    exact hh
   refine ⟨fun h1 => thr_fd (p := plG i) (x := 6) (congrArg (atD (plG i)) (by simp only [gloI, h1, cond_true, cond_false])) rfl rfl, fun h1 => ⟨fun h2 => thr_fd (p := plG i) (x := 7) (congrArg (atD (plG i)) (by simp only [gloI, h1, h2, cond_true, cond_false])) rfl rfl, fun h2 => ⟨by unfold roomB; omega, fun _ => ⟨fun h3 => thr_fd (p := plG i) (x := 9) (congrArg (atD (plG i)) (by simp only [gloI, h1, h2, h3, cond_true, cond_false])) rfl rfl, fun h3 => ⟨fun h4 => ⟨fun h5 => thr_fd (p := plG i) (x := 10) (congrArg (atD (plG i)) (by simp only [gloI, h1, h2, h3, h4, h5, cond_true, cond_false])) rfl rfl, fun h5 => ⟨fun h6 => thr_fd (p := plG i) (x := 5) (congrArg (atD (plG i)) (by simp only [gloI, h1, h2, h3, h4, h5, h6, cond_true, cond_false])) rfl rfl, fun h6 => ⟨fun h7 => go (by simp only [gloI, h1, h2, h3, h4, h5, h6, h7, cond_true, cond_false]), fun h7 => ⟨fun h8 => thr_fd (p := plG i) (x := 9) (congrArg (atD (plG i)) (by simp only [gloI, h1, h2, h3, h4, h5, h6, h7, h8, cond_true, cond_false])) rfl rfl, fun h8 => go (by simp only [gloI, h1, h2, h3, h4, h5, h6, h7, h8, cond_true, cond_false])⟩⟩⟩⟩, fun h4 => thr_fd (p := plG i) (x := 10) (congrArg (atD (plG i)) (by simp only [gloI, h1, h2, h3, h4, cond_true, cond_false])) rfl rfl⟩⟩⟩⟩⟩)
def k_verify_globals : ConP := ⟨[.d (.sl 64 qaf)], fun x => True, fun x => errB (gloD x.1), fun x => ifD (gloD x.1)⟩
theorem m_verify_globals (l : List (Den qaf)) (h_l : okD (.sl 64 qaf) l) (hp : True) : RunsP E_V10 (start E_V10 qcb [(.tv (.sl 64 qaf) l)]) (fun r_ h_ => r_ = .tup [] ∧ h_ = [] ∧ errB (gloD l) = false) (fun r_ => r_ = ifD (gloD l) ∧ errB (gloD l) = true) := .tree E_V10_ok (verify_globals_t l) (by
 simp only [sQ]
 refine ⟨fun h => ?_, fun h => ?_⟩
 ·unfold gloD
  rw [h]
  exact ⟨rfl, rfl⟩
 ·unfold gloD
  rw [h]
  exact verify_globals_l0 l (by simpa using h) h_l 0 (Nat.zero_le _))
theorem c_verify_globals : qal E_V10 qcb k_verify_globals.spec := spec_ofP fun x hx hp => ⟨rfl, m_verify_globals x.1 hx.1 hp⟩
def gloR (m : Md) (i : Int) : Int := gloI m.1 i.toNat
theorem r14_global_l2 (g0 : ByteArray) (g1 g2 : Int) (g3 : List (Den I)) (g4 : Bool) (h3 : ln I g3 < 9223372036854775807) : ∀ k, k ≤ ln I g3 → RetI E_V10 (qew g3 (ln I g3 : Nat) k g0 g1 g2 g3 g4) (qap (fitI g1 g3) (ln I g3 - k) k) :=
 qba (.tree E_V10_ok (r14_global_L2_t _ _ _ _ _ _ _ _) (by
  rw [Nat.sub_self]
  simp only [sS, sL,  Nat.lt_irrefl, qap]))
  fun k hk ihk => .tree E_V10_ok (r14_global_L2_t _ _ _ _ _ _ _ _) (by
   rw [sub1 hk]
   simp only [sS, sL,  hk, wrapS hk h3]
   exact ⟨fun h1 => RetI.hit (x := 10) (by simp only [fitI, h1, cond_true]) (by decide), fun h1 => RetI.miss (by simp only [fitI, h1, cond_false]) ihk⟩)
def gloT (g1 g2 : Int) (g3 : List (Den I)) : Int :=
 cond (!(celP g1)) 9 (cond (decide (g2 < (1 : Int))) 10 (cond (decide (g2 > (256 : Int))) 10 (cond (decide ((ln I g3 : Int) > g2)) 5
  (cond (g1 == (5 : Int)) (cond (decide ((ln I g3 : Int) > (0 : Int))) 9 (fitE g1 g3)) (fitE g1 g3)))))
theorem r14_global_l0 (l : List Glob) (hl : ln qaf l < 9223372036854775807) (g0 : ByteArray) (g1 g2 : Int) (g3 : List (Den I)) (g4 : Bool) (h3 : ln I g3 < 9223372036854775807) : ∀ k, k ≤ ln qaf l → RetI E_V10 (r14_global_L0 l (ln qaf l : Nat) k g0 g1 g2 g3 g4) (cond (hasS ((l.drop k).map fun g => g.1) g0) 7 (gloT g1 g2 g3)) :=
 qba (.tree E_V10_ok (r14_global_L0_t _ _ _ _ _ _ _ _) (by
  rw [drop_ln]
  simp only [sS, sL,  Nat.lt_irrefl, List.map_nil, hasS, cond_false]
  have go : RetI E_V10 (qew g3 (ln I g3 : Nat) (0 : Nat) g0 g1 g2 g3 g4) (fitE g1 g3) := r14_global_l2 g0 g1 g2 g3 g4 h3 0 (Nat.zero_le _)
  have gq : ∀ {e}, e = fitE g1 g3 → RetI E_V10 (qew g3 (ln I g3 : Nat) (0 : Nat) g0 g1 g2 g3 g4) e := fun h => h ▸ go
  exact ⟨fun h1 => congrArg vi (by simp only [gloT, h1, cond_true]), fun h1 => ⟨fun h2 => congrArg vi (by simp only [gloT, h1, h2, cond_true, cond_false]), fun h2 => ⟨fun h3 => congrArg vi (by simp only [gloT, h1, h2, h3, cond_true, cond_false]), fun h3 => ⟨fun h4 => congrArg vi (by simp only [gloT, h1, h2, h3, h4, cond_true, cond_false]), fun h4 => ⟨fun h5 => ⟨fun h6 => congrArg vi (by simp only [gloT, h1, h2, h3, h4, h5, h6, cond_true, cond_false]), fun h6 => gq (by simp only [gloT, h1, h2, h3, h4, h5, h6, cond_true, cond_false])⟩, fun h5 => gq (by simp only [gloT, h1, h2, h3, h4, h5, cond_true, cond_false])⟩⟩⟩⟩⟩))
  fun k hk ihk => .tree E_V10_ok (r14_global_L0_t _ _ _ _ _ _ _ _) (by
   rw [qgz (l := l) (i := k) hk, List.map_cons, hasS]
   simp only [sS, sL,  hk, wrapS hk hl]
   refine ⟨fun h1 => ?_, fun h1 => ?_⟩
   ·rw [show (tOf (gd qaf l k).1).toList = _ from eq_of_beq h1]
    simp
   ·have h1' : ((tOf (gd qaf l k).1).toList == g0.toList) = false := h1
    rw [h1']
    exact ihk)
theorem gloT_eq (l : List Glob) (i : Nat) : gloI l i = cond (!(qge (gd qaf l i).1)) 6 (cond (hasS (namG l i) (gd qaf l i).1) 7 (gloT (z (gd qaf l i).2.1) (z (gd qaf l i).2.2.1) (gd qaf l i).2.2.2.1)) := by
 unfold gloI gloT
 simp only [Bool.not_not]
 congr 2
 have hc : celP (gd qaf l i).2.1 = celP (z (gd qaf l i).2.1) := rfl
 rw [hc]
 generalize (gd qaf l i).2.2.2.1 = q
 generalize z (gd qaf l i).2.1 = t
 generalize z (gd qaf l i).2.2.1 = n
 cases celP t
 ·rfl
 ·simp only [Bool.cond_eq_ite, decide_eq_true_eq, bne_iff_ne, ne_eq, beq_iff_eq, Bool.not_eq_true', decide_eq_false_iff_not, beq_eq_false_iff_ne, Bool.not_true, Bool.false_eq_true, if_false]
  repeat' split
  all_goals first | rfl | omega
def k_r14_global : Con := con [.d qad, .d I] I (fun x => 0 ≤ z x.2.1 ∧ z x.2.1 < (ln qaf x.1.1 : Nat)) fun x => gloR x.1 x.2.1
theorem m_r14_global (m : Den qad) (i : Int) (h_m : okD qad m) (h_i : okD I i) (hp : 0 ≤ z i ∧ z i < (ln qaf m.1 : Nat)) : Runs E_V10 (start E_V10 qdr [(.tv qad m), (vi i)]) (fun r_ h_ => r_ = (vi (gloR m i)) ∧ h_ = []) := .tree E_V10_ok (r14_global_t m i) (by
 have h1 : 0 ≤ i := hp.1
 have h2 : i < (ln qaf m.1 : Nat) := hp.2
 obtain ⟨n, rfl⟩ : ∃ n : Nat, i = n := ⟨i.toNat, by omega⟩
 have hn : n < ln qaf m.1 := by omega
 have hgo := ok_gd h_m.1 hn
 have hl : ln qaf m.1 < 9223372036854775807 := qas h_m.1.1
 have hw : ln qaf (wn qaf m.1 0 n) = n := by
  show ((m.1.drop 0).take n).length = n
  rw [List.length_take]
  exact Nat.min_eq_left (Nat.le_of_lt hn)
 show Tre.wp (contL _ fun r_ h_ => r_ = vi (gloI m.1 n) ∧ h_ = []) _
 rw [gloT_eq]
 simp only [sS, sL,  hn, Nat.sub_zero, hw]
 refine ⟨fun h3 => by rw [h3]; rfl, fun h3 => ⟨by simp; omega, ?_⟩⟩
 rw [h3]
 have := r14_global_l0 (wn qaf m.1 0 n) (by rw [hw]; omega) (tOf (gd qaf m.1 n).1) (z (gd qaf m.1 n).2.1) (z (gd qaf m.1 n).2.2.1) (gd qaf m.1 n).2.2.2.1 (bOf (gd qaf m.1 n).2.2.2.2.1) (qas hgo.2.2.2.1.1) 0 (Nat.zero_le _)
 rw [hw] at this
 exact fun _ => this)
theorem c_r14_global : qal E_V10 qdr k_r14_global.spec := qam fun x hx hp => ⟨rfl, m_r14_global x.1 x.2.1 hx.1 hx.2.1 hp⟩
def L_V10 : List (FuncId × FSpec) := [(qcb, k_verify_globals.spec), (qdr, k_r14_global.spec)] ++ L_V9
theorem L_V10_ok : ∀ x ∈ L_V10, qal (ctx []) x.1 x.2 := by
 unfold L_V10
 simp only [List.cons_append, List.nil_append, List.forall_mem_cons]
 exact ⟨c_verify_globals, c_r14_global, L_V9_ok⟩
end Burn.MTT
namespace Burn.MTT
open Go Go.BE Go.Proofs
set_option maxRecDepth 100000
set_option linter.unusedVariables false
set_option linter.unusedSimpArgs false
noncomputable abbrev E_V11 : Ctx := ctx L_V10
theorem E_V11_ok : EOK E_V11 := qbq L_V10_ok
def cuts_V11 : CutL := [([], 37, 0, [2, 13, 14, 15], [(.t 2, .own 16 .str)], []),
 ([], 37, 2, [2, 4, 5, 13, 14, 15, 62, 63, 64], [], []),
 ([], 62, 0, [5, 22, 23, 24], [], []),
 ([], 62, 2, [5, 54, 55, 56], [], [])]
def rets_V11 : FuncId → List (Option Fx)
 | _ => []
def H_V11 : Hints := { cut := cutOf cuts_V11, ret := rets_V11 }
noncomputable def qda (t13 : List (Den qab)) (t14 : Int) (t15 : Int) (names : List (Den .str)) : Cfg := hcfg E_V11 qbh 0 [(2, (.osl 0 0 [] none)), (13, (.tv (.sl 96 qab) t13)), (14, (vi t14)), (15, (vi t15))] [(0, ⟨(.arr 0 16 .str names), 0, [], false, none⟩)] 1
noncomputable def qcn (t13 : List (Den qab)) (t14 : Int) (t15 : Int) (t62 : List (Den I)) (t63 : Int) (t64 : Int) (names : List (Den .str)) (f_0 : ByteArray) (f_1 : List (Den I)) (f_2 : Int) (f_3 : List (Den I)) (f_4 : List (Den qaa)) (at_ : Den qak) : Cfg := hcfg E_V11 qbh 2 [(2, (.osl 0 0 [] none)), (4, (.ref 1 0)), (5, (.tref 2 2 [] (0 : Nat) [])), (13, (.tv (.sl 96 qab) t13)), (14, (vi t14)), (15, (vi t15)), (62, (.tv (.sl 8 I) t62)), (63, (vi t63)), (64, (vi t64))] [(0, ⟨(.arr 0 16 .str names), 0, [], false, none⟩), (1, ⟨(.cells [(vs f_0), (.tv (.sl 8 I) f_1), (vi f_2), (.tv (.sl 8 I) f_3), (.tv (.sl 136 qaa) f_4)]), 1, [], false, none⟩), (2, ⟨(.arr 0 32 qak ([at_] : List (Den qak))), 2, [], false, none⟩)] 3
theorem verify_signatures_t (l : List (Den qab)) : run E_V11 H_V11 qbh 3000 (start E_V11 qbh [(.tv (.sl 96 qab) l)]) = (cond (!(decide (((ln qab l) : Int) ≤ (32 : Int)))) (pn (.val (.iface 106 (.agg #[.int .i64 (11 : Int), .int .i64 (2 : Int), .int .i64 (-1 : Int), .int .i64 (-1 : Int), .int .i64 (-1 : Int)])))) (hd (qda l ((ln qab l) : Int) (0 : Int) ([] : List (Den .str))))) := by kernel_rfl
theorem verify_signatures_L0_t (t13 : List (Den qab)) (t14 : Int) (t15 : Int) (names : List (Den .str)) : run E_V11 H_V11 qbh 3000 (qda t13 t14 t15 names) = (cond (decide (t15 < t14)) (.chk (0 ≤ t15 ∧ t15 < (ln qab t13)) (.chk ((0 : Nat) < (1 : Nat)) (.chk ((0 : Nat) < (1 : Nat)) (.chk (True) (.know True (cond (!(qge (gd qab t13 t15.toNat).1)) (pn (.val (.iface 106 (.agg #[.int .i64 (6 : Int), .int .i64 (2 : Int), .int .i64 t15, .int .i64 (-1 : Int), .int .i64 (-1 : Int)])))) (.chk ((0 : Nat) < (1 : Nat)) (.chk (True) (.know True (cond (!(!(hasS names (gd qab t13 t15.toNat).1))) (pn (.val (.iface 106 (.agg #[.int .i64 (7 : Int), .int .i64 (2 : Int), .int .i64 t15, .int .i64 (-1 : Int), .int .i64 (-1 : Int)])))) (.chk (((ln .str names) + (1 : Nat)) * 16 ≤ roomB) (.chk ((0 : Nat) < (1 : Nat)) (cond ((z ((gd qab t13 t15.toNat).2.2.1)) == (0 : Int)) (.chk ((0 : Nat) < (1 : Nat)) (cond (decide (((ln I ((gd qab t13 t15.toNat).2.1)) : Int) ≤ (6 : Int))) (cond (!(decide (((ln I ((gd qab t13 t15.toNat).2.2.2.1)) : Int) ≤ (4000 : Int)))) (pn (.val (.iface 106 (.agg #[.int .i64 (11 : Int), .int .i64 (2 : Int), .int .i64 t15, .int .i64 (-1 : Int), .int .i64 (-1 : Int)])))) (hd (qcn t13 t14 t15 ((gd qab t13 t15.toNat).2.2.2.1) ((ln I ((gd qab t13 t15.toNat).2.2.2.1)) : Int) (0 : Int) (ap .str names ([(gd qab t13 t15.toNat).1] : List (Den .str))) (tOf ((gd qab t13 t15.toNat).1)) ((gd qab t13 t15.toNat).2.1) (z ((gd qab t13 t15.toNat).2.2.1)) ((gd qab t13 t15.toNat).2.2.2.1) ((gd qab t13 t15.toNat).2.2.2.2.1) ((2 : Int), t15, (-1 : Int), (-1 : Int), ())))) (pn (.val (.iface 106 (.agg #[.int .i64 (11 : Int), .int .i64 (2 : Int), .int .i64 t15, .int .i64 (-1 : Int), .int .i64 (-1 : Int)])))))) (.chk (True) (.know True (cond (!(typP (gd qab t13 t15.toNat).2.2.1)) (pn (.val (.iface 106 (.agg #[.int .i64 (9 : Int), .int .i64 (2 : Int), .int .i64 t15, .int .i64 (-1 : Int), .int .i64 (-1 : Int)])))) (.chk ((0 : Nat) < (1 : Nat)) (cond (decide (((ln I ((gd qab t13 t15.toNat).2.1)) : Int) ≤ (6 : Int))) (cond (!(decide (((ln I ((gd qab t13 t15.toNat).2.2.2.1)) : Int) ≤ (4000 : Int)))) (pn (.val (.iface 106 (.agg #[.int .i64 (11 : Int), .int .i64 (2 : Int), .int .i64 t15, .int .i64 (-1 : Int), .int .i64 (-1 : Int)])))) (hd (qcn t13 t14 t15 ((gd qab t13 t15.toNat).2.2.2.1) ((ln I ((gd qab t13 t15.toNat).2.2.2.1)) : Int) (0 : Int) (ap .str names ([(gd qab t13 t15.toNat).1] : List (Den .str))) (tOf ((gd qab t13 t15.toNat).1)) ((gd qab t13 t15.toNat).2.1) (z ((gd qab t13 t15.toNat).2.2.1)) ((gd qab t13 t15.toNat).2.2.2.1) ((gd qab t13 t15.toNat).2.2.2.2.1) ((2 : Int), t15, (-1 : Int), (-1 : Int), ())))) (pn (.val (.iface 106 (.agg #[.int .i64 (11 : Int), .int .i64 (2 : Int), .int .i64 t15, .int .i64 (-1 : Int), .int .i64 (-1 : Int)])))))))))))))))))))))) (rt (.tup []) [])) := by kernel_rfl
theorem verify_signatures_L2_t (t13 : List (Den qab)) (t14 : Int) (t15 : Int) (t62 : List (Den I)) (t63 : Int) (t64 : Int) (names : List (Den .str)) (f_0 : ByteArray) (f_1 : List (Den I)) (f_2 : Int) (f_3 : List (Den I)) (f_4 : List (Den qaa)) (at_ : Den qak) : run E_V11 H_V11 qbh 3000 (qcn t13 t14 t15 t62 t63 t64 names f_0 f_1 f_2 f_3 f_4 at_) = (cond (decide (t64 < t63)) (.chk (0 ≤ t64 ∧ t64 < (ln I t62)) (.chk ((0 : Nat) < (1 : Nat)) (.chk (True) (.know True (cond (!(typP (gd I t62 t64.toNat))) (pn (.val (.iface 106 (.agg #[.int .i64 (9 : Int), .int .i64 (z at_.1), .int .i64 (z at_.2.1), .int .i64 (z at_.2.2.1), .int .i64 (z at_.2.2.2.1)])))) (hd (qcn t13 t14 t15 t62 t63 (IntKind.wrap .i64 (t64 + (1 : Int))) names f_0 f_1 f_2 f_3 f_4 at_))))))) (.chk ((0 : Nat) < (1 : Nat)) (.chk (True) (cond (errB (parF at_ (f_0, f_1, f_2, f_3, f_4, ()) f_1)) (pn (ifD (parF at_ (f_0, f_1, f_2, f_3, f_4, ()) f_1))) (hd (qda t13 t14 (IntKind.wrap .i64 (t15 + (1 : Int))) names)))))) := by kernel_rfl
noncomputable def qhu (t22 : List (Den qab)) (t23 : Int) (t24 : Int) (f_0 : ByteArray) (f_1 : List (Den I)) (f_2 : Int) (f_3 : List (Den I)) (f_4 : List (Den qaa)) : Cfg := hcfg E_V11 qci 0 [(5, (.ref 0 0)), (22, (.tv (.sl 96 qab) t22)), (23, (vi t23)), (24, (vi t24))] [(0, ⟨(.cells [(vs f_0), (.tv (.sl 8 I) f_1), (vi f_2), (.tv (.sl 8 I) f_3), (.tv (.sl 136 qaa) f_4)]), 0, [], false, none⟩)] 1
noncomputable def qdn (t54 : List (Den I)) (t55 : Int) (t56 : Int) (f_0 : ByteArray) (f_1 : List (Den I)) (f_2 : Int) (f_3 : List (Den I)) (f_4 : List (Den qaa)) : Cfg := hcfg E_V11 qci 2 [(5, (.ref 0 0)), (54, (.tv (.sl 8 I) t54)), (55, (vi t55)), (56, (vi t56))] [(0, ⟨(.cells [(vs f_0), (.tv (.sl 8 I) f_1), (vi f_2), (.tv (.sl 8 I) f_3), (.tv (.sl 136 qaa) f_4)]), 0, [], false, none⟩)] 1
theorem r14_signature_t (m : Den qad) (i : Int) : run E_V11 H_V11 qci 3000 (start E_V11 qci [(.tv qad m), (vi i)]) = (.chk (0 ≤ i ∧ i < (ln qab m.2.1)) (.chk (True) (.know True (cond (!(qge (gd qab m.2.1 i.toNat).1)) (rt (vi (6 : Int)) []) (.chk (0 ≤ (0 : Int) ∧ (0 : Int) ≤ i ∧ i ≤ ((ln qab m.2.1) : Int)) (hd (qhu (wn qab m.2.1 (0 : Nat) (i.toNat - (0 : Nat))) ((ln qab (wn qab m.2.1 (0 : Nat) (i.toNat - (0 : Nat)))) : Int) (0 : Int) (tOf ((gd qab m.2.1 i.toNat).1)) ((gd qab m.2.1 i.toNat).2.1) (z ((gd qab m.2.1 i.toNat).2.2.1)) ((gd qab m.2.1 i.toNat).2.2.2.1) ((gd qab m.2.1 i.toNat).2.2.2.2.1)))))))) := by kernel_rfl
theorem r14_signature_L0_t (t22 : List (Den qab)) (t23 : Int) (t24 : Int) (f_0 : ByteArray) (f_1 : List (Den I)) (f_2 : Int) (f_3 : List (Den I)) (f_4 : List (Den qaa)) : run E_V11 H_V11 qci 3000 (qhu t22 t23 t24 f_0 f_1 f_2 f_3 f_4) = (cond (decide (t24 < t23)) (.chk (0 ≤ t24 ∧ t24 < (ln qab t22)) (cond (((tOf ((gd qab t22 t24.toNat).1))).toList == (f_0).toList) (rt (vi (7 : Int)) []) (hd (qhu t22 t23 (IntKind.wrap .i64 (t24 + (1 : Int))) f_0 f_1 f_2 f_3 f_4)))) (cond (f_2 != (0 : Int)) (.chk (True) (.know True (cond (!(typP f_2)) (rt (vi (9 : Int)) []) (cond (decide (((ln I f_1) : Int) > (6 : Int))) (rt (vi (11 : Int)) []) (cond (decide (((ln I f_3) : Int) > (4000 : Int))) (rt (vi (11 : Int)) []) (hd (qdn f_3 ((ln I f_3) : Int) (0 : Int) f_0 f_1 f_2 f_3 f_4))))))) (cond (decide (((ln I f_1) : Int) > (6 : Int))) (rt (vi (11 : Int)) []) (cond (decide (((ln I f_3) : Int) > (4000 : Int))) (rt (vi (11 : Int)) []) (hd (qdn f_3 ((ln I f_3) : Int) (0 : Int) f_0 f_1 f_2 f_3 f_4)))))) := by kernel_rfl
theorem r14_signature_L2_t (t54 : List (Den I)) (t55 : Int) (t56 : Int) (f_0 : ByteArray) (f_1 : List (Den I)) (f_2 : Int) (f_3 : List (Den I)) (f_4 : List (Den qaa)) : run E_V11 H_V11 qci 3000 (qdn t54 t55 t56 f_0 f_1 f_2 f_3 f_4) = (cond (decide (t56 < t55)) (.chk (0 ≤ t56 ∧ t56 < (ln I t54)) (.chk (True) (.know True (cond (!(typP (gd I t54 t56.toNat))) (rt (vi (9 : Int)) []) (hd (qdn t54 t55 (IntKind.wrap .i64 (t56 + (1 : Int))) f_0 f_1 f_2 f_3 f_4)))))) (.chk (True) (.know (okD (.int .i64) (parE (f_0, f_1, f_2, f_3, f_4, ()) f_1)) (rt (vi (parE (f_0, f_1, f_2, f_3, f_4, ()) f_1)) [])))) := by kernel_rfl
def Thr (d : Dg) (r : AV) : Prop := r = ifD d ∧ errB d = true
def Don (d : Dg) (r : AV) (h : Heap) : Prop := r = .tup [] ∧ h = [] ∧ errB d = false
def IsI (e : Int) (r : AV) (h : Heap) : Prop := r = vi e ∧ h = []
def RunD (E : Ctx) (c : Cfg) (d : Dg) : Prop := RunsP E c (Don d) (Thr d)
def RunI (E : Ctx) (c : Cfg) (e : Int) : Prop := Runs E c (IsI e)
theorem RunD.cast {E : Ctx} {c : Cfg} {d d' : Dg} (h : RunD E c d) (e : d' = d) : RunD E c d' := e ▸ h
theorem RunI.cast {E : Ctx} {c : Cfg} {d d' : Int} (h : RunI E c d) (e : d' = d) : RunI E c d' := e ▸ h
theorem Thr.at {d : Dg} {p : Plc} {x : Int} {r : AV} (hr : r = ifD (atD p x)) (h : d = atD p x) (hx : (x == 0) = false) : Thr d r := ⟨by rw [h]; exact hr, by rw [h, errAt, hx]; rfl⟩
theorem Thr.fd {D : Nat → Dg} {n i : Nat} {p : Plc} {x : Int} {r : AV} (hr : r = ifD (atD p x)) (h : D i = atD p x) (hx : (x == 0) = false) : Thr (qco D (n + 1) i) r := by
 have he : errB (D i) = true := by rw [h, errAt, hx]; rfl
 rw [qco, or_hit he]
 exact .at hr h hx
theorem Thr.or {a b : Dg} {r : AV} (h : Thr a r) : Thr (orD a b) r := by rw [or_hit h.2]; exact h
theorem Thr.fe {e : Nat → Int} {n i : Nat} {p : Plc} {x : Int} {r : AV} (hr : r = ifD (atD p x)) (h : e i = x) (hx : (x == 0) = false) : Thr (atD p (qap e (n + 1) i)) r := by
 rw [first_hit (by rw [h]; simpa using hx)]
 exact .at hr (by rw [h]) hx
theorem IsI.fe {e : Nat → Int} {n i : Nat} {x : Int} (h : e i = x) (hx : (x == 0) = false) : IsI (qap e (n + 1) i) (vi x) [] := by
 rw [first_hit (by rw [h]; simpa using hx), h]
 exact ⟨rfl, rfl⟩
theorem RunI.fe {E : Ctx} {c : Cfg} {e : Nat → Int} {n i : Nat} (ih : RunI E c (qap e n (i + 1))) (h : e i = 0) : RunI E c (qap e (n + 1) i) := by rw [qil h]; exact ih
theorem RunD.fe {E : Ctx} {c : Cfg} {e : Nat → Int} {n i : Nat} {p : Plc} {d : Dg} (ih : RunD E c (orD (atD p (qap e n (i + 1))) d)) (h : e i = 0) : RunD E c (orD (atD p (qap e (n + 1) i)) d) := by rw [qil h]; exact ih
def orE (a b : Int) : Int := cond (a == 0) b a
theorem or_at {p : Plc} {a b : Int} {d : Dg} : orD (atD p (orE a b)) d = orD (atD p a) (orD (atD p b) d) := by
 unfold orE
 cases h : a == 0
 ·rw [cond_false, or_hit (a := atD p a) (by rw [errAt, h]; rfl), or_hit (a := atD p a) (by rw [errAt, h]; rfl)]
 ·rw [cond_true, qdw (a := atD p a) (by rw [errAt, h]; rfl)]
def tyI (l : List (Den I)) (k : Nat) : Int := cond (!(typP (gd I l k))) 9 0
def tyE (l : List (Den I)) : Int := qap (tyI l) (ln I l) 0
def namF (l : List Fn) (i : Nat) : List (Den .str) := (l.take i).map fun g => g.1
theorem namF_ln {l : List Fn} {i : Nat} (h : i ≤ ln qab l) : ln .str (namF l i) = i := by
 show ((l.take i).map _).length = i
 rw [List.length_map, List.length_take]
 exact Nat.min_eq_left h
theorem namF_ap {l : List Fn} {i : Nat} (h : i < ln qab l) : ap .str (namF l i) ([(gd qab l i).1] : List (Den .str)) = namF l (i + 1) := by
 show (l.take i).map _ ++ [_] = (l.take (i + 1)).map _
 rw [List.take_succ_eq_append_getElem h, List.map_append]
 refine congrArg (fun x => _ ++ [x]) ?_
 have hq : l[i]? = some l[i] := List.getElem?_eq_getElem h
 simp [gd, hq]
def sigV (f : Fn) : Int := orE (tyE f.2.2.2.1) (parE f f.2.1)
def sigU (f : Fn) : Int := cond (decide ((ln I f.2.1 : Int) ≤ (6 : Int))) (cond (!(decide ((ln I f.2.2.2.1 : Int) ≤ (4000 : Int)))) 11 (sigV f)) 11
def sigT (f : Fn) : Int := cond (z f.2.2.1 == (0 : Int)) (sigU f) (cond (!(typP f.2.2.1)) 9 (sigU f))
def sigI (l : List Fn) (i : Nat) : Int := cond (!(qge (gd qab l i).1)) 6 (cond (!(!(hasS (namF l i) (gd qab l i).1))) 7 (sigT (gd qab l i)))
def plF (i : Nat) : Plc := ((2 : Int), (i : Int), (-1 : Int), (-1 : Int), ())
def sigD (l : List Fn) : Dg := cond (!(decide ((ln qab l : Int) ≤ 32))) (atD ((2 : Int), (-1 : Int), (-1 : Int), (-1 : Int), ()) 11) (qco (fun i => atD (plF i) (sigI l i)) (ln qab l) 0)
theorem verify_signatures_l2 (l : List Fn) (i : Nat) (nm : List (Den .str)) (f : Fn) (p : Plc) (d : Dg) (hi : i < ln qab l) (hl : ln qab l < 9223372036854775807) (h3 : ln I f.2.2.2.1 < 9223372036854775807)
  (ih : RunD E_V11 (qda l (ln qab l : Nat) (i + 1 : Nat) nm) d) : ∀ k, k ≤ ln I f.2.2.2.1 → RunD E_V11 (qcn l (ln qab l : Nat) i f.2.2.2.1 (ln I f.2.2.2.1 : Nat) k nm (tOf f.1) f.2.1 (z f.2.2.1) f.2.2.2.1 f.2.2.2.2.1 p) (orD (atD p (qap (tyI f.2.2.2.1) (ln I f.2.2.2.1 - k) k)) (orD (parF p f f.2.1) d)) :=
 qba (RunsP.tree E_V11_ok (verify_signatures_L2_t _ _ _ _ _ _ _ _ _ _ _ _ _) (by
  rw [Nat.sub_self, qap, qdw at_zero]
  simp only [sQ, sL,  Nat.lt_irrefl, wrapS hi hl]
  refine ⟨fun h => Thr.or ⟨rfl, h⟩, fun h => ih.cast (qdw h)⟩))
  fun k hk ihk => RunsP.tree E_V11_ok (verify_signatures_L2_t _ _ _ _ _ _ _ _ _ _ _ _ _) (by
   rw [sub1 hk]
   simp only [sQ, sL,  hk, wrapS hk h3]
   exact ⟨fun h1 => .or (.fe (x := 9) rfl (by simp only [tyI, h1, cond_true]) rfl), fun h1 => RunD.fe ihk (by simp only [tyI, h1, cond_false])⟩)
theorem verify_signatures_l0 (l : List Fn) (h32 : (ln qab l : Int) ≤ 32) (hx : okD (.sl 96 qab) l) : ∀ i, i ≤ ln qab l → RunD E_V11 (qda l (ln qab l : Nat) i (namF l i)) (qco (fun i => atD (plF i) (sigI l i)) (ln qab l - i) i) :=
 qba (RunsP.tree E_V11_ok (verify_signatures_L0_t _ _ _ _) (by
  rw [Nat.sub_self]
  simp only [sQ, sL,  Nat.lt_irrefl]
  exact ⟨rfl, rfl, rfl⟩))
  fun i hi ih => RunsP.tree E_V11_ok (verify_signatures_L0_t _ _ _ _) (by
   have hgo := ok_gd hx hi
   have go := fun hk => verify_signatures_l2 l i (namF l (i + 1)) (gd qab l i) (plF i) _ hi (by omega) hk ih 0 (Nat.zero_le _)
   replace go := go (qas hgo.2.2.2.1.1)
   rw [sub1 hi]
   simp only [sQ, sL,  hi, wrapS hi (show ln qab l < 9223372036854775807 by omega), namF_ln (Nat.le_of_lt hi), namF_ap hi]
   have go' : sigI l i = sigV (gd qab l i) → RunD E_V11 (qcn l (ln qab l : Nat) i (gd qab l i).2.2.2.1 (ln I (gd qab l i).2.2.2.1 : Nat) (0 : Nat) (namF l (i + 1)) (tOf (gd qab l i).1) (gd qab l i).2.1 (z (gd qab l i).2.2.1) (gd qab l i).2.2.2.1 (gd qab l i).2.2.2.2.1 (plF i)) (qco (fun i => atD (plF i) (sigI l i)) ((ln qab l - (i + 1)) + 1) i) := by
    intro hg
    refine go.cast ?_
    show orD (atD (plF i) (sigI l i)) _ = _
    rw [hg, sigV, or_at]
    rfl
   refine ⟨fun h1 => .fd (p := plF i) (x := 6) rfl (congrArg (atD (plF i)) (by simp only [sigI, h1, cond_true])) rfl, fun h1 => ⟨fun h2 => .fd (p := plF i) (x := 7) rfl (congrArg (atD (plF i)) (by simp only [sigI, h1, h2, cond_true, cond_false])) rfl, fun h2 => ⟨by unfold roomB; omega, fun _ => ⟨fun h3 => ⟨fun h4 => ⟨fun h5 => .fd (p := plF i) (x := 11) rfl (congrArg (atD (plF i)) (by simp only [sigI, sigT, sigU, h1, h2, h3, h4, h5, cond_true, cond_false])) rfl, fun h5 => go' (by simp only [sigI, sigT, sigU, h1, h2, h3, h4, h5, cond_true, cond_false])⟩, fun h4 => .fd (p := plF i) (x := 11) rfl (congrArg (atD (plF i)) (by simp only [sigI, sigT, sigU, h1, h2, h3, h4, cond_true, cond_false])) rfl⟩, fun h3 => ⟨fun h6 => .fd (p := plF i) (x := 9) rfl (congrArg (atD (plF i)) (by simp only [sigI, sigT, sigU, h1, h2, h3, h6, cond_true, cond_false])) rfl, fun h6 => ⟨fun h4 => ⟨fun h5 => .fd (p := plF i) (x := 11) rfl (congrArg (atD (plF i)) (by simp only [sigI, sigT, sigU, h1, h2, h3, h4, h5, h6, cond_true, cond_false])) rfl, fun h5 => go' (by simp only [sigI, sigT, sigU, h1, h2, h3, h4, h5, h6, cond_true, cond_false])⟩, fun h4 => .fd (p := plF i) (x := 11) rfl (congrArg (atD (plF i)) (by simp only [sigI, sigT, sigU, h1, h2, h3, h4, h6, cond_true, cond_false])) rfl⟩⟩⟩⟩⟩⟩)
def k_verify_signatures : ConP := ⟨[.d (.sl 96 qab)], fun x => True, fun x => errB (sigD x.1), fun x => ifD (sigD x.1)⟩
theorem m_verify_signatures (l : List (Den qab)) (h_l : okD (.sl 96 qab) l) (hp : True) : RunsP E_V11 (start E_V11 qbh [(.tv (.sl 96 qab) l)]) (fun r_ h_ => r_ = .tup [] ∧ h_ = [] ∧ errB (sigD l) = false) (fun r_ => r_ = ifD (sigD l) ∧ errB (sigD l) = true) := .tree E_V11_ok (verify_signatures_t l) (by
 simp only [sQ]
 refine ⟨fun h => ?_, fun h => ?_⟩
 ·unfold sigD
  rw [h]
  exact ⟨rfl, rfl⟩
 ·unfold sigD
  rw [h]
  exact verify_signatures_l0 l (by simpa using h) h_l 0 (Nat.zero_le _))
theorem c_verify_signatures : qal E_V11 qbh k_verify_signatures.spec := spec_ofP fun x hx hp => ⟨rfl, m_verify_signatures x.1 hx.1 hp⟩
def sigR (m : Md) (i : Int) : Int := sigI m.2.1 i.toNat
theorem r14_signature_l2 (f : Fn) (hok : okD qab f) : ∀ k, k ≤ ln I f.2.2.2.1 → RunI E_V11 (qdn f.2.2.2.1 (ln I f.2.2.2.1 : Nat) k (tOf f.1) f.2.1 (z f.2.2.1) f.2.2.2.1 f.2.2.2.2.1) (orE (qap (tyI f.2.2.2.1) (ln I f.2.2.2.1 - k) k) (parE f f.2.1)) :=
 qba (.tree E_V11_ok (r14_signature_L2_t _ _ _ _ _ _ _ _) (by
  rw [Nat.sub_self]
  simp only [sS, sL,  Nat.lt_irrefl, qap]
  exact fun _ => ⟨rfl, rfl⟩))
  fun k hk ihk => .tree E_V11_ok (r14_signature_L2_t _ _ _ _ _ _ _ _) (by
   rw [sub1 hk]
   simp only [sS, sL,  hk, wrapS hk (qas hok.2.2.2.1.1)]
   refine ⟨fun h1 => ?_, fun h1 => ?_⟩
   ·rw [first_hit (by simp only [tyI, h1, cond_true]; decide), show tyI f.2.2.2.1 k = 9 by simp only [tyI, h1, cond_true]]
    exact ⟨rfl, rfl⟩
   ·rw [qil (by simp only [tyI, h1, cond_false])]
    exact ihk)
def sigQ (f : Fn) : Int := cond (decide ((ln I f.2.1 : Int) > (6 : Int))) 11 (cond (decide ((ln I f.2.2.2.1 : Int) > (4000 : Int))) 11 (sigV f))
def sigP (f : Fn) : Int := cond (z f.2.2.1 != (0 : Int)) (cond (!(typP (z f.2.2.1))) 9 (sigQ f)) (sigQ f)
theorem sigP_eq (f : Fn) : sigT f = sigP f := by
 have h : sigU f = sigQ f := by
  unfold sigU sigQ
  simp only [Bool.cond_eq_ite, decide_eq_true_eq, Bool.not_eq_true', decide_eq_false_iff_not]
  repeat' split
  all_goals first | rfl | omega
 unfold sigT sigP
 rw [h]
 have hc : typP f.2.2.1 = typP (z f.2.2.1) := rfl
 rw [hc]
 unfold bne
 cases z f.2.2.1 == 0 <;> rfl
theorem r14_signature_l0 (l : List Fn) (hl : ln qab l < 9223372036854775807) (f : Fn) (hok : okD qab f) : ∀ k, k ≤ ln qab l → RunI E_V11 (qhu l (ln qab l : Nat) k (tOf f.1) f.2.1 (z f.2.2.1) f.2.2.2.1 f.2.2.2.2.1) (cond (hasS ((l.drop k).map fun g => g.1) f.1) 7 (sigP f)) :=
 qba (.tree E_V11_ok (r14_signature_L0_t _ _ _ _ _ _ _ _) (by
  rw [drop_ln]
  simp only [sS, sL,  Nat.lt_irrefl, List.map_nil, hasS, cond_false]
  have go : ∀ {e}, e = sigV f → RunI E_V11 (qdn f.2.2.2.1 (ln I f.2.2.2.1 : Nat) (0 : Nat) (tOf f.1) f.2.1 (z f.2.2.1) f.2.2.2.1 f.2.2.2.2.1) e := fun h => (r14_signature_l2 f hok 0 (Nat.zero_le _)).cast h
  refine ⟨fun h1 => ⟨fun h2 => ⟨congrArg vi (by simp only [sigP, h1, h2, cond_true]), rfl⟩, fun h2 => ⟨fun h3 => ⟨congrArg vi (by simp only [sigP, sigQ, h1, h2, h3, cond_true, cond_false]), rfl⟩, fun h3 => ⟨fun h4 => ⟨congrArg vi (by simp only [sigP, sigQ, h1, h2, h3, h4, cond_true, cond_false]), rfl⟩, fun h4 => go (by simp only [sigP, sigQ, h1, h2, h3, h4, cond_true, cond_false])⟩⟩⟩, fun h1 => ⟨fun h3 => ⟨congrArg vi (by simp only [sigP, sigQ, h1, h3, cond_true, cond_false]), rfl⟩, fun h3 => ⟨fun h4 => ⟨congrArg vi (by simp only [sigP, sigQ, h1, h3, h4, cond_true, cond_false]), rfl⟩, fun h4 => go (by simp only [sigP, sigQ, h1, h3, h4, cond_true, cond_false])⟩⟩⟩))
  fun k hk ihk => .tree E_V11_ok (r14_signature_L0_t _ _ _ _ _ _ _ _) (by
   rw [qgz (l := l) (i := k) hk, List.map_cons, hasS]
   simp only [sS, sL,  hk, wrapS hk hl]
   refine ⟨fun h1 => ?_, fun h1 => ?_⟩
   ·have h1' : ((tOf (gd qab l k).1).toList == (f.1 : ByteArray).toList) = true := h1
    rw [h1']
    exact ⟨rfl, rfl⟩
   ·have h1' : ((tOf (gd qab l k).1).toList == (f.1 : ByteArray).toList) = false := h1
    rw [h1']
    exact ihk)
def k_r14_signature : Con := con [.d qad, .d I] I (fun x => 0 ≤ z x.2.1 ∧ z x.2.1 < (ln qab x.1.2.1 : Nat)) fun x => sigR x.1 x.2.1
theorem m_r14_signature (m : Den qad) (i : Int) (h_m : okD qad m) (h_i : okD I i) (hp : 0 ≤ z i ∧ z i < (ln qab m.2.1 : Nat)) : Runs E_V11 (start E_V11 qci [(.tv qad m), (vi i)]) (fun r_ h_ => r_ = (vi (sigR m i)) ∧ h_ = []) := .tree E_V11_ok (r14_signature_t m i) (by
 have h1 : 0 ≤ i := hp.1
 have h2 : i < (ln qab m.2.1 : Nat) := hp.2
 obtain ⟨n, rfl⟩ : ∃ n : Nat, i = n := ⟨i.toNat, by omega⟩
 have hn : n < ln qab m.2.1 := by omega
 have hgo := ok_gd h_m.2.1 hn
 have hl : ln qab m.2.1 < 9223372036854775807 := qas h_m.2.1.1
 have hw : ln qab (wn qab m.2.1 0 n) = n := by
  show ((m.2.1.drop 0).take n).length = n
  rw [List.length_take]
  exact Nat.min_eq_left (Nat.le_of_lt hn)
 show Tre.wp (contL _ fun r_ h_ => r_ = vi (sigI m.2.1 n) ∧ h_ = []) _
 rw [sigI, sigP_eq]
 simp only [sS, sL,  hn, Nat.sub_zero, hw]
 refine ⟨fun h3 => by rw [h3]; rfl, fun h3 => ⟨by simp; omega, ?_⟩⟩
 rw [h3]
 have := r14_signature_l0 (wn qab m.2.1 0 n) (by rw [hw]; omega) (gd qab m.2.1 n) hgo 0 (Nat.zero_le _)
 rw [hw] at this
 simp only [Bool.not_not]
 exact fun _ => this)
theorem c_r14_signature : qal E_V11 qci k_r14_signature.spec := qam fun x hx hp => ⟨rfl, m_r14_signature x.1 x.2.1 hx.1 hx.2.1 hp⟩
def L_V11 : List (FuncId × FSpec) := [(qbh, k_verify_signatures.spec), (qci, k_r14_signature.spec)] ++ L_V10
theorem L_V11_ok : ∀ x ∈ L_V11, qal (ctx []) x.1 x.2 := by
 unfold L_V11
 simp only [List.cons_append, List.nil_append, List.forall_mem_cons]
 exact ⟨c_verify_signatures, c_r14_signature, L_V10_ok⟩
end Burn.MTT
namespace Burn.MTT
open Go Go.BE Go.Proofs
set_option maxRecDepth 100000
set_option linter.unusedVariables false
set_option linter.unusedSimpArgs false
open Burn.Intn Burn.Ref
noncomputable abbrev E_V12 : Ctx := ctx L_V11
theorem E_V12_ok : EOK E_V12 := qbq L_V11_ok
def cuts_V12 : CutL := [([], 117, 0, [1, 7, 8, 9], [], []),
 ([], 121, 0, [1, 3, 7, 17, 18, 19], [], [])]
def rets_V12 : FuncId → List (Option Fx)
 | _ => []
def H_V12 : Hints := { cut := cutOf cuts_V12, ret := rets_V12 }
theorem opcode_count_t (in_ : Den qac) (m : Den qad) : run E_V12 H_V12 qhp 3000 (start E_V12 qhp [(.tv qac in_), (.tv qad m)]) = (.chk (True) (.chk (0 ≤ (IntKind.wrap .i64 ((z in_.1) - (1 : Int))) ∧ (IntKind.wrap .i64 ((z in_.1) - (1 : Int))) < (ln qaq (rowsP))) (.know (okD (.sl 24 qaq) (rowsP)) (cond ((z in_.1) == (30 : Int)) (.chk (0 ≤ (z in_.2.2.2.2.2.1) ∧ (z in_.2.2.2.2.2.1) < (ln qab m.2.1)) (cond (((ln I in_.2.2.2.1) : Int) != ((ln I ((gd qab m.2.1 (((z in_.2.2.2.2.2.1)).toNat)).2.1)) : Int)) (rt (vi (3 : Int)) []) (rt (vi (0 : Int)) []))) (cond ((z in_.1) == (32 : Int)) (cond (((ln I in_.2.2.2.1) : Int) == (4 : Int)) (cond (((ln I in_.2.2.2.1) : Int) != (4 : Int)) (rt (vi (3 : Int)) []) (rt (vi (0 : Int)) [])) (cond (((ln I in_.2.2.2.1) : Int) != (2 : Int)) (rt (vi (3 : Int)) []) (rt (vi (0 : Int)) []))) (cond (((ln I in_.2.2.2.1) : Int) != (z ((gd qaq (rowsP) (((IntKind.wrap .i64 ((z in_.1) - (1 : Int)))).toNat)).2.1))) (rt (vi (3 : Int)) []) (rt (vi (0 : Int)) []))))))) := by kernel_rfl
theorem opcode_result_t (in_ : Den qac) (f : Den qab) : run E_V12 H_V12 qgl 3000 (start E_V12 qgl [(.tv qac in_), (.tv qab f)]) = (cond ((z in_.2.1) == (0 : Int)) (rt (vb ((z in_.2.2.1) == (-1 : Int))) []) (cond ((z in_.2.2.1) == (-1 : Int)) (rt (vb ((z in_.1) == (30 : Int))) []) (.chk (0 ≤ (z in_.2.2.1) ∧ (z in_.2.2.1) < (ln I f.2.2.2.1)) (rt (vb ((z (gd I f.2.2.2.1 (((z in_.2.2.1)).toNat))) == (z in_.2.1))) [])))) := by kernel_rfl
theorem opcode_immediate_t (in_ : Den qac) (args : List (Den I)) : run E_V12 H_V12 qds 3000 (start E_V12 qds [(.tv qac in_), (.tv (.sl 8 I) args)]) = (cond ((z in_.1) == (26 : Int)) (.chk (True) (.know (okAVs [(vi (z ((accP in_.2.2.2.2.2.2.1).1))), (vi (z ((accP in_.2.2.2.2.2.2.1).2)))]) (cond ((z ((accP in_.2.2.2.2.2.2.1).2)) != (1 : Int)) (rt (vi (9 : Int)) []) (cond ((z ((accP in_.2.2.2.2.2.2.1).1)) != (z in_.2.2.2.2.2.2.1)) (rt (vi (9 : Int)) []) (cond (decide ((z in_.2.2.2.2.1) ≥ (1 : Int))) (cond (!(decide ((z in_.2.2.2.2.1) ≤ (256 : Int)))) (rt (vi (10 : Int)) []) (rt (vi (0 : Int)) [])) (rt (vi (10 : Int)) [])))))) (cond ((z in_.1) == (1 : Int)) (.chk (True) (.know (okD (.int .i64) (wrapZ in_.2.1 in_.2.2.2.2.1)) (cond (!((wrapZ in_.2.1 in_.2.2.2.2.1) == (z in_.2.2.2.2.1))) (rt (vi (10 : Int)) []) (rt (vi (0 : Int)) [])))) (cond ((z in_.1) == (33 : Int)) (.chk (0 ≤ (0 : Int) ∧ (0 : Int) < (ln I args)) (.chk (True) (.know (okAVs [(vi (z ((accP (gd I args (0 : Nat))).1))), (vi (z ((accP (gd I args (0 : Nat))).2)))]) (cond (decide ((z in_.2.2.2.2.1) ≥ (0 : Int))) (cond (!(decide ((z in_.2.2.2.2.1) < (z ((accP (gd I args (0 : Nat))).2))))) (rt (vi (10 : Int)) []) (rt (vi (0 : Int)) [])) (rt (vi (10 : Int)) []))))) (rt (vi (0 : Int)) [])))) := by kernel_rfl
noncomputable def opcode_same_L0 (t : Int) (t7 : List (Den I)) (t8 : Int) (t9 : Int) : Cfg := hcfg E_V12 qez 0 [(1, (vi t)), (7, (.tv (.sl 8 I) t7)), (8, (vi t8)), (9, (vi t9))] [] 0
theorem opcode_same_t (args : List (Den I)) (t : Int) : run E_V12 H_V12 qez 3000 (start E_V12 qez [(.tv (.sl 8 I) args), (vi t)]) = (hd (opcode_same_L0 t args ((ln I args) : Int) (0 : Int))) := by kernel_rfl
theorem opcode_same_L0_t (t : Int) (t7 : List (Den I)) (t8 : Int) (t9 : Int) : run E_V12 H_V12 qez 3000 (opcode_same_L0 t t7 t8 t9) = (cond (decide (t9 < t8)) (.chk (0 ≤ t9 ∧ t9 < (ln I t7)) (cond ((z (gd I t7 t9.toNat)) != t) (rt (vb false) []) (hd (opcode_same_L0 t t7 t8 (IntKind.wrap .i64 (t9 + (1 : Int))))))) (rt (vb true) [])) := by kernel_rfl
noncomputable def qhy (args : List (Den I)) (in_ : Den qac) (t17 : List (Den I)) (t18 : Int) (t19 : Int) (f_0 : ByteArray) (f_1 : List (Den I)) (f_2 : Int) (f_3 : List (Den I)) (f_4 : List (Den qaa)) : Cfg := hcfg E_V12 qdj 0 [(1, (.tv (.sl 8 I) args)), (3, (.rtp qac in_)), (7, (.ref 0 0)), (17, (.tv (.sl 8 I) t17)), (18, (vi t18)), (19, (vi t19))] [(0, ⟨(.cells [(vs f_0), (.tv (.sl 8 I) f_1), (vi f_2), (.tv (.sl 8 I) f_3), (.tv (.sl 136 qaa) f_4)]), 0, [], false, none⟩)] 1
theorem opcode_callee_t (in_ : Den qac) (args : List (Den I)) (m : Den qad) : run E_V12 H_V12 qdj 3000 (start E_V12 qdj [(.tv qac in_), (.tv (.sl 8 I) args), (.tv qad m)]) = (.chk (0 ≤ (z in_.2.2.2.2.2.1) ∧ (z in_.2.2.2.2.2.1) < (ln qab m.2.1)) (hd (qhy args in_ ((gd qab m.2.1 (((z in_.2.2.2.2.2.1)).toNat)).2.1) ((ln I ((gd qab m.2.1 (((z in_.2.2.2.2.2.1)).toNat)).2.1)) : Int) (0 : Int) (tOf ((gd qab m.2.1 (((z in_.2.2.2.2.2.1)).toNat)).1)) ((gd qab m.2.1 (((z in_.2.2.2.2.2.1)).toNat)).2.1) (z ((gd qab m.2.1 (((z in_.2.2.2.2.2.1)).toNat)).2.2.1)) ((gd qab m.2.1 (((z in_.2.2.2.2.2.1)).toNat)).2.2.2.1) ((gd qab m.2.1 (((z in_.2.2.2.2.2.1)).toNat)).2.2.2.2.1)))) := by kernel_rfl
theorem opcode_callee_L0_t (args : List (Den I)) (in_ : Den qac) (t17 : List (Den I)) (t18 : Int) (t19 : Int) (f_0 : ByteArray) (f_1 : List (Den I)) (f_2 : Int) (f_3 : List (Den I)) (f_4 : List (Den qaa)) : run E_V12 H_V12 qdj 3000 (qhy args in_ t17 t18 t19 f_0 f_1 f_2 f_3 f_4) = (cond (decide (t19 < t18)) (.chk (0 ≤ t19 ∧ t19 < (ln I t17)) (cond (decide ((z (gd I t17 t19.toNat)) < (0 : Int))) (rt (vb false) []) (cond (decide ((z (gd I t17 t19.toNat)) ≥ ((ln I f_3) : Int))) (rt (vb false) []) (.chk (0 ≤ (z (gd I t17 t19.toNat)) ∧ (z (gd I t17 t19.toNat)) < (ln I f_3)) (.chk (0 ≤ t19 ∧ t19 < (ln I args)) (cond ((z (gd I f_3 (((z (gd I t17 t19.toNat))).toNat))) != (z (gd I args t19.toNat))) (rt (vb false) []) (hd (qhy args in_ t17 t18 (IntKind.wrap .i64 (t19 + (1 : Int))) f_0 f_1 f_2 f_3 f_4)))))))) (rt (vb ((z in_.2.1) == f_2)) [])) := by kernel_rfl
def symOK (x : Ins) (m : Md) : Prop := (z x.1 = 25 → 0 ≤ z x.2.2.2.2.2.1 ∧ z x.2.2.2.2.2.1 < (ln qaf m.1 : Nat)) ∧ (z x.1 = 30 → 0 ≤ z x.2.2.2.2.2.1 ∧ z x.2.2.2.2.2.1 < (ln qab m.2.1 : Nat))
theorem name_room' {op : Int} (h : 1 ≤ op ∧ op ≤ 33) : 0 ≤ IntKind.wrap .i64 (op - 1) ∧ IntKind.wrap .i64 (op - 1) < (ln qaq rowsP : Nat) := name_room (by omega) (by rw [show ln qaq rowsP = 33 from rfl]; omega)
def samF : List (Den I) → Int → Bool
 | [], _ => true
 | y :: l, t => cond (z y != t) false (samF l t)
def calN (g : Fn) (args : List (Den I)) (t : Int) : Nat → Nat → Bool
 | 0, _ => t == z g.2.2.1
 | n + 1, i => cond (decide (z (gd I g.2.1 i) < (0 : Int))) false (cond (decide (z (gd I g.2.1 i) ≥ (ln I g.2.2.2.1 : Int))) false (cond (z (gd I g.2.2.2.1 (z (gd I g.2.1 i)).toNat) != z (gd I args i)) false (calN g args t n (i + 1))))
def calF (x : Ins) (args : List (Den I)) (m : Md) : Bool := calN (gd qab m.2.1 (z x.2.2.2.2.2.1).toNat) args (z x.2.1) (ln I (gd qab m.2.1 (z x.2.2.2.2.2.1).toNat).2.1) 0
def cntP (in_ : Den qac) (m : Den qad) : Int := (cond ((z in_.1) == (30 : Int)) (cond (((ln I in_.2.2.2.1) : Int) != ((ln I ((gd qab m.2.1 (((z in_.2.2.2.2.2.1)).toNat)).2.1)) : Int)) (3 : Int) (0 : Int)) (cond ((z in_.1) == (32 : Int)) (cond (((ln I in_.2.2.2.1) : Int) == (4 : Int)) (cond (((ln I in_.2.2.2.1) : Int) != (4 : Int)) (3 : Int) (0 : Int)) (cond (((ln I in_.2.2.2.1) : Int) != (2 : Int)) (3 : Int) (0 : Int))) (cond (((ln I in_.2.2.2.1) : Int) != (z ((gd qaq (rowsP) (((IntKind.wrap .i64 ((z in_.1) - (1 : Int)))).toNat)).2.1))) (3 : Int) (0 : Int))))

def k_opcode_count : Con := con [.d qac, .d qad] I (fun x => (1 ≤ z x.1.1 ∧ z x.1.1 ≤ 33) ∧ symOK x.1 x.2.1) fun x => cntP x.1 x.2.1
theorem m_opcode_count (in_ : Den qac) (m : Den qad) (h_in_ : okD qac in_) (h_m : okD qad m) (hp : (1 ≤ z in_.1 ∧ z in_.1 ≤ 33) ∧ symOK in_ m) : Runs E_V12 (start E_V12 qhp [(.tv qac in_), (.tv qad m)]) (fun r_ h_ => r_ = (vi (cntP in_ m)) ∧ h_ = []) := .tree E_V12_ok (opcode_count_t in_ m) (by
 have hp_ := hp
 try simp only [z] at hp_
 show Tre.wp (Qv _ (fun x_ => (vi x_)) (cntP in_ m)) _
 unfold cntP
 refine ⟨trivial, fun _ => ?_⟩
 refine ⟨by first | omega | exact (name_room' hp.1) | (have g_ := name_room' hp.1; omega) | exact (hp.2.2 (by assumption)) | (have g_ := hp.2.2 (by assumption); omega) | assumption | exact hp.1 | exact hp.2 | exact hp.2.1 | (simp_all; done) | (simp_all; omega), fun _ => ?_⟩
 refine fun _ => ?_
 refine qag (fun h1 => ?_) (fun h1 => ?_)
 ·have h1_ := beq_t h1
  refine ⟨by first | omega | exact (name_room' hp.1) | (have g_ := name_room' hp.1; omega) | exact (hp.2.2 (by assumption)) | (have g_ := hp.2.2 (by assumption); omega) | assumption | exact hp.1 | exact hp.2 | exact hp.2.1 | (simp_all; done) | (simp_all; omega), fun _ => ?_⟩
  refine qag (fun h2 => ⟨rfl, rfl⟩) (fun h2 => ?_)
  exact ⟨rfl, rfl⟩
 ·refine qag (fun h3 => ?_) (fun h3 => ?_)
  ·refine qag (fun h4 => ?_) (fun h4 => ?_)
   ·refine qag (fun h5 => ⟨rfl, rfl⟩) (fun h5 => ?_)
    exact ⟨rfl, rfl⟩
   ·refine qag (fun h6 => ⟨rfl, rfl⟩) (fun h6 => ?_)
    exact ⟨rfl, rfl⟩
  ·refine qag (fun h7 => ⟨rfl, rfl⟩) (fun h7 => ?_)
   exact ⟨rfl, rfl⟩)
theorem c_opcode_count : qal E_V12 qhp k_opcode_count.spec := qam fun x hx hp => ⟨rfl, m_opcode_count x.1 x.2.1 hx.1 hx.2.1 hp⟩
def resP (in_ : Den qac) (f : Den qab) : Bool := (cond ((z in_.2.1) == (0 : Int)) ((z in_.2.2.1) == (-1 : Int)) (cond ((z in_.2.2.1) == (-1 : Int)) ((z in_.1) == (30 : Int)) ((z (gd I f.2.2.2.1 (((z in_.2.2.1)).toNat))) == (z in_.2.1))))

def k_opcode_result : Con := con [.d qac, .d qab] .bool (fun x => -1 ≤ z x.1.2.2.1 ∧ z x.1.2.2.1 < (ln I x.2.1.2.2.2.1 : Nat)) fun x => resP x.1 x.2.1
theorem m_opcode_result (in_ : Den qac) (f : Den qab) (h_in_ : okD qac in_) (h_f : okD qab f) (hp : -1 ≤ z in_.2.2.1 ∧ z in_.2.2.1 < (ln I f.2.2.2.1 : Nat)) : Runs E_V12 (start E_V12 qgl [(.tv qac in_), (.tv qab f)]) (fun r_ h_ => r_ = (vb (resP in_ f)) ∧ h_ = []) := .tree E_V12_ok (opcode_result_t in_ f) (by
 have hp_ := hp
 try simp only [z] at hp_
 show Tre.wp (Qv _ (fun x_ => (vb x_)) (resP in_ f)) _
 unfold resP
 refine qag (fun h1 => ⟨rfl, rfl⟩) (fun h1 => ?_)
 have h1_ := beq_f h1
 refine qag (fun h2 => ⟨rfl, rfl⟩) (fun h2 => ?_)
 have h2_ := beq_f h2
 refine ⟨by first | omega | assumption | exact hp.1 | exact hp.2 | exact hp.2.1 | (simp_all; done) | (simp_all; omega), fun _ => ?_⟩
 exact ⟨rfl, rfl⟩)
theorem c_opcode_result : qal E_V12 qgl k_opcode_result.spec := qam fun x hx hp => ⟨rfl, m_opcode_result x.1 x.2.1 hx.1 hx.2.1 hp⟩
def immP (in_ : Den qac) (args : List (Den I)) : Int := (cond ((z in_.1) == (26 : Int)) (cond ((z ((accP in_.2.2.2.2.2.2.1).2)) != (1 : Int)) (9 : Int) (cond ((z ((accP in_.2.2.2.2.2.2.1).1)) != (z in_.2.2.2.2.2.2.1)) (9 : Int) (cond (decide ((z in_.2.2.2.2.1) ≥ (1 : Int))) (cond (!(decide ((z in_.2.2.2.2.1) ≤ (256 : Int)))) (10 : Int) (0 : Int)) (10 : Int)))) (cond ((z in_.1) == (1 : Int)) (cond (!((wrapZ in_.2.1 in_.2.2.2.2.1) == (z in_.2.2.2.2.1))) (10 : Int) (0 : Int)) (cond ((z in_.1) == (33 : Int)) (cond (decide ((z in_.2.2.2.2.1) ≥ (0 : Int))) (cond (!(decide ((z in_.2.2.2.2.1) < (z ((accP (gd I args (0 : Nat))).2))))) (10 : Int) (0 : Int)) (10 : Int)) (0 : Int))))

def k_opcode_immediate : Con := con [.d qac, .d (.sl 8 I)] I (fun x => z x.1.1 = 33 → 0 < ln I x.2.1) fun x => immP x.1 x.2.1
theorem m_opcode_immediate (in_ : Den qac) (args : List (Den I)) (h_in_ : okD qac in_) (h_args : okD (.sl 8 I) args) (hp : z in_.1 = 33 → 0 < ln I args) : Runs E_V12 (start E_V12 qds [(.tv qac in_), (.tv (.sl 8 I) args)]) (fun r_ h_ => r_ = (vi (immP in_ args)) ∧ h_ = []) := .tree E_V12_ok (opcode_immediate_t in_ args) (by
 have hp_ := hp
 try simp only [z] at hp_
 show Tre.wp (Qv _ (fun x_ => (vi x_)) (immP in_ args)) _
 unfold immP
 refine qag (fun h1 => ?_) (fun h1 => ?_)
 ·refine ⟨trivial, fun _ => ?_⟩
  refine fun _ => ?_
  refine qag (fun h2 => ⟨rfl, rfl⟩) (fun h2 => ?_)
  refine qag (fun h3 => ⟨rfl, rfl⟩) (fun h3 => ?_)
  refine qag (fun h4 => ?_) (fun h4 => ⟨rfl, rfl⟩)
  refine qag (fun h5 => ⟨rfl, rfl⟩) (fun h5 => ?_)
  exact ⟨rfl, rfl⟩
 ·have h1_ := beq_f h1
  refine qag (fun h6 => ?_) (fun h6 => ?_)
  ·refine ⟨trivial, fun _ => ?_⟩
   refine fun _ => ?_
   refine qag (fun h7 => ⟨rfl, rfl⟩) (fun h7 => ?_)
   exact ⟨rfl, rfl⟩
  ·have h6_ := beq_f h6
   refine qag (fun h8 => ?_) (fun h8 => ⟨rfl, rfl⟩)
   have h8_ := beq_t h8
   refine ⟨by first | omega | assumption | exact hp.1 | exact hp.2 | exact hp.2.1 | (simp_all; done) | (simp_all; omega), fun _ => ?_⟩
   refine ⟨trivial, fun _ => ?_⟩
   refine fun _ => ?_
   refine qag (fun h9 => ?_) (fun h9 => ⟨rfl, rfl⟩)
   refine qag (fun h10 => ⟨rfl, rfl⟩) (fun h10 => ?_)
   exact ⟨rfl, rfl⟩)
theorem c_opcode_immediate : qal E_V12 qds k_opcode_immediate.spec := qam fun x hx hp => ⟨rfl, m_opcode_immediate x.1 x.2.1 hx.1 hx.2.1 hp⟩
theorem opcode_same_l (t : Int) (l : List (Den I)) (hl : ln I l < 9223372036854775807) : ∀ i, i ≤ ln I l → Runs E_V12 (opcode_same_L0 t l (ln I l : Nat) i) (fun r h => r = vb (samF (l.drop i) t) ∧ h = []) :=
 qba (.tree E_V12_ok (opcode_same_L0_t _ _ _ _) (by
  rw [drop_ln]
  simp only [sS, sL,  samF]))
  fun i hi ih => .tree E_V12_ok (opcode_same_L0_t _ _ _ _) (by
   rw [qgz (l := l) (i := i) hi]
   simp only [sS, sL,  hi, wrapS hi hl, samF]
   exact stop_step vb ih)
def k_opcode_same : Con := con [.d (.sl 8 I), .d I] .bool (fun x => True) fun x => samF x.1 x.2.1
theorem m_opcode_same (args : List (Den I)) (t : Int) (h_args : okD (.sl 8 I) args) (h_t : okD I t) (hp : True) : Runs E_V12 (start E_V12 qez [(.tv (.sl 8 I) args), (vi t)]) (fun r_ h_ => r_ = (vb (samF args t)) ∧ h_ = []) := .tree E_V12_ok (opcode_same_t args t) (by
 simp only [sS]
 exact opcode_same_l t args (qas h_args.1) 0 (Nat.zero_le _))
theorem c_opcode_same : qal E_V12 qez k_opcode_same.spec := qam fun x hx hp => ⟨rfl, m_opcode_same x.1 x.2.1 hx.1 hx.2.1 hp⟩
theorem opcode_callee_l (x : Ins) (g : Fn) (args : List (Den I)) (hg : okD qab g) (ha : ln I g.2.1 ≤ ln I args) : ∀ i, i ≤ ln I g.2.1 → Runs E_V12 (qhy args x g.2.1 (ln I g.2.1 : Nat) i (tOf g.1) g.2.1 (z g.2.2.1) g.2.2.2.1 g.2.2.2.2.1) (fun r h => r = vb (calN g args (z x.2.1) (ln I g.2.1 - i) i) ∧ h = []) :=
 qba (.tree E_V12_ok (opcode_callee_L0_t _ _ _ _ _ _ _ _ _ _) (by
  rw [Nat.sub_self]
  simp only [sS, sL,  calN]))
  fun i hi ih => .tree E_V12_ok (opcode_callee_L0_t _ _ _ _ _ _ _ _ _ _) (by
   rw [sub1 hi]
   simp only [sS, sL,  hi, wrapS hi (qas hg.2.1.1), calN]
   refine ⟨fun h1 => by rw [h1]; rfl, fun h1 => ⟨fun h2 => by rw [h1, h2]; rfl, fun h2 => ⟨⟨by simpa using h1, by simpa using h2⟩, fun _ => ⟨by omega, fun _ => ⟨fun h3 => by rw [h1, h2, h3]; rfl, fun h3 => by rw [h1, h2, h3]; exact ih⟩⟩⟩⟩⟩)
def k_opcode_callee : Con := con [.d qac, .d (.sl 8 I), .d qad] .bool (fun x => (0 ≤ z x.1.2.2.2.2.2.1 ∧ z x.1.2.2.2.2.2.1 < (ln qab x.2.2.1.2.1 : Nat)) ∧ ln I (gd qab x.2.2.1.2.1 (z x.1.2.2.2.2.2.1).toNat).2.1 ≤ ln I x.2.1) fun x => calF x.1 x.2.1 x.2.2.1
theorem m_opcode_callee (in_ : Den qac) (args : List (Den I)) (m : Den qad) (h_in_ : okD qac in_) (h_args : okD (.sl 8 I) args) (h_m : okD qad m) (hp : (0 ≤ z in_.2.2.2.2.2.1 ∧ z in_.2.2.2.2.2.1 < (ln qab m.2.1 : Nat)) ∧ ln I (gd qab m.2.1 (z in_.2.2.2.2.2.1).toNat).2.1 ≤ ln I args) : Runs E_V12 (start E_V12 qdj [(.tv qac in_), (.tv (.sl 8 I) args), (.tv qad m)]) (fun r_ h_ => r_ = (vb (calF in_ args m)) ∧ h_ = []) := .tree E_V12_ok (opcode_callee_t in_ args m) (by
 have hs := hp.1
 simp only [sS]
 refine ⟨hs, fun _ => ?_⟩
 exact opcode_callee_l in_ (gd qab m.2.1 (z in_.2.2.2.2.2.1).toNat) args (ok_gd h_m.2.1 (by omega)) hp.2 0 (Nat.zero_le _))
theorem c_opcode_callee : qal E_V12 qdj k_opcode_callee.spec := qam fun x hx hp => ⟨rfl, m_opcode_callee x.1 x.2.1 x.2.2.1 hx.1 hx.2.1 hx.2.2.1 hp⟩
def L_V12 : List (FuncId × FSpec) := [(qhp, k_opcode_count.spec), (qgl, k_opcode_result.spec), (qds, k_opcode_immediate.spec), (qez, k_opcode_same.spec), (qdj, k_opcode_callee.spec)] ++ L_V11
theorem L_V12_ok : ∀ x ∈ L_V12, qal (ctx []) x.1 x.2 := by
 unfold L_V12
 simp only [List.cons_append, List.nil_append, List.forall_mem_cons]
 exact ⟨c_opcode_count, c_opcode_result, c_opcode_immediate, c_opcode_same, c_opcode_callee, L_V11_ok⟩
end Burn.MTT
