/- What the functions that the law reaches compute, one contract each. No conditions beyond those written. -/
import Derived.Test.YteaealfalanccaaDoorEngineD
import Derived.Test.YteaealfalanccaaDoorProg
import Derived.KernelRfl
import Derived.Test.YteaealfalanccaaDoorPlainA
import Derived.Laws.Strings
import Derived.Laws.RangeAny
namespace Burn.MM
open Go Go.BE Go.Proofs
set_option maxRecDepth 100000
abbrev s_runtime_boundsError : Sh := (.pair I (.pair I (.pair .bool (.pair (.int .u8) .unit))))
abbrev qes : Sh := (.pair .str (.pair (.int .u64) .unit))
abbrev qaj : Sh := (.pair I (.pair I (.pair (.sl 8 I) .unit)))
abbrev qaf : Sh := (.pair .str (.pair I (.pair I (.pair (.sl 8 I) (.pair .bool .unit)))))
abbrev qad : Sh := (.pair I (.pair I (.pair I (.pair (.sl 8 I) (.pair I (.pair I (.pair I (.pair .bool .unit))))))))
abbrev qae : Sh := (.pair I (.pair (.sl 8 I) .unit))
abbrev qai : Sh := (.pair I (.pair (.sl 8 I) (.pair (.sl 8 I) (.pair (.sl 32 qae) (.pair I .unit)))))
abbrev qac : Sh := (.pair (.sl 8 I) (.pair (.sl 80 qad) (.pair qai .unit)))
abbrev qaa : Sh := (.pair .str (.pair (.sl 8 I) (.pair I (.pair (.sl 8 I) (.pair (.sl 136 qac) .unit)))))
abbrev qah : Sh := (.pair (.sl 64 qaf) (.pair (.sl 96 qaa) .unit))
abbrev qam : Sh := (.pair .str (.pair (.sl 8 I) (.pair I (.pair (.sl 8 I) (.pair I (.pair I (.pair (.sl 136 qac) .unit)))))))
abbrev qat : Sh := (.pair I (.pair I (.pair I (.pair I (.pair I .unit)))))
abbrev qab : Sh := (.pair qah (.pair qam .unit))
abbrev s_verify_failure : Sh := (.pair qat .unit)
abbrev qak : Sh := (.pair I (.pair I (.pair I (.pair I .unit))))
abbrev qao : Sh := (.pair .str (.pair I .unit))
def tyN : Nat := 160
def tyTr : Tr TI := (.node none (.node (some ⟨.other, 1, 8, [.nilFunc], none⟩) (.node (some ⟨.int .i64, 1, 8, [.int .i64 0], some I⟩) (.node (some ⟨.struct [⟨0, 1, false⟩, ⟨1, 1, false⟩, ⟨2, 1, false⟩, ⟨3, 1, false⟩], 4, 24, [.int .i64 0, .int .i64 0, .bool false, .int .u8 0], some s_runtime_boundsError⟩) (.node (some ⟨.ptr 146, 1, 8, [.pointer none], none⟩) (.node (some ⟨.other, 1, 8, [.nilFunc], none⟩) (.node (some ⟨.other, 1, 8, [.nilFunc], none⟩) (.node (some ⟨.other, 1, 8, [.nilFunc], none⟩) .leaf .leaf) .leaf) (.node (some ⟨.other, 1, 8, [.nilFunc], none⟩) (.node (some ⟨.other, 1, 8, [.pointer none], none⟩) .leaf .leaf) .leaf)) (.node (some ⟨.other, 1, 8, [.nilFunc], none⟩) (.node (some ⟨.other, 1, 8, [.nilFunc], none⟩) (.node (some ⟨.arr 64 5, 64, 64, [.int .u8 0, .int .u8 0, .int .u8 0, .int .u8 0, .int .u8 0, .int .u8 0, .int .u8 0, .int .u8 0, .int .u8 0, .int .u8 0, .int .u8 0, .int .u8 0, .int .u8 0, .int .u8 0, .int .u8 0, .int .u8 0, .int .u8 0, .int .u8 0, .int .u8 0, .int .u8 0, .int .u8 0, .int .u8 0, .int .u8 0, .int .u8 0, .int .u8 0, .int .u8 0, .int .u8 0, .int .u8 0, .int .u8 0, .int .u8 0, .int .u8 0, .int .u8 0, .int .u8 0, .int .u8 0, .int .u8 0, .int .u8 0, .int .u8 0, .int .u8 0, .int .u8 0, .int .u8 0, .int .u8 0, .int .u8 0, .int .u8 0, .int .u8 0, .int .u8 0, .int .u8 0, .int .u8 0, .int .u8 0, .int .u8 0, .int .u8 0, .int .u8 0, .int .u8 0, .int .u8 0, .int .u8 0, .int .u8 0, .int .u8 0, .int .u8 0, .int .u8 0, .int .u8 0, .int .u8 0, .int .u8 0, .int .u8 0, .int .u8 0, .int .u8 0], some (.arr 64 (.int .u8))⟩) .leaf .leaf) .leaf) (.node (some ⟨.other, 1, 8, [.nilFunc], none⟩) .leaf .leaf))) (.node (some ⟨.struct [⟨0, 1, false⟩, ⟨1, 1, false⟩, ⟨2, 1, false⟩], 3, 40, [.int .i64 0, .int .i64 0, .slice none 0 0], some qaj⟩) (.node (some ⟨.int .i64, 1, 8, [.int .i64 0], some I⟩) (.node (some ⟨.other, 1, 8, [.nilFunc], none⟩) (.node (some ⟨.int .u32, 1, 4, [.int .u32 0], some (.int .u32)⟩) .leaf .leaf) .leaf) (.node (some ⟨.other, 1, 8, [.nilFunc], none⟩) .leaf .leaf)) (.node (some ⟨.struct [⟨0, 1, false⟩, ⟨1, 1, false⟩, ⟨2, 1, false⟩, ⟨3, 1, false⟩, ⟨4, 1, false⟩], 5, 88, [.int .i64 0, .slice none 0 0, .slice none 0 0, .slice none 0 0, .int .i64 0], some qai⟩) (.node (some ⟨.other, 1, 8, [.nilFunc], none⟩) (.node (some ⟨.int .u8, 1, 1, [.int .u8 0], some (.int .u8)⟩) .leaf .leaf) .leaf) (.node (some ⟨.other, 1, 8, [.nilFunc], none⟩) .leaf .leaf)))) (.node (some ⟨.str, 1, 16, [.string ⟨#[]⟩], some .str⟩) (.node (some ⟨.struct [⟨0, 1, false⟩], 1, 8, [.pointer none], none⟩) (.node (some ⟨.slice 98, 1, 24, [.slice none 0 0], some (.sl 64 qaf)⟩) (.node (some ⟨.struct [⟨0, 1, false⟩, ⟨1, 1, false⟩, ⟨2, 1, false⟩, ⟨3, 1, false⟩, ⟨4, 1, false⟩, ⟨5, 1, false⟩, ⟨6, 1, false⟩, ⟨7, 1, false⟩], 8, 80, [.int .i64 0, .int .i64 0, .int .i64 0, .slice none 0 0, .int .i64 0, .int .i64 0, .int .i64 0, .bool false], some qad⟩) (.node (some ⟨.other, 1, 8, [.nilFunc], none⟩) .leaf .leaf) .leaf) (.node (some ⟨.other, 1, 8, [.nilFunc], none⟩) .leaf .leaf)) (.node (some ⟨.other, 1, 8, [.nilFunc], none⟩) (.node (some ⟨.other, 1, 8, [.nilFunc], none⟩) (.node (some ⟨.arr 0 16, 0, 0, [], none⟩) .leaf .leaf) .leaf) (.node none .leaf .leaf))) (.node (some ⟨.other, 1, 8, [.nilFunc], none⟩) (.node (some ⟨.struct [⟨0, 1, false⟩, ⟨1, 1, false⟩, ⟨2, 1, false⟩, ⟨3, 1, false⟩, ⟨4, 1, false⟩, ⟨5, 1, false⟩, ⟨6, 1, false⟩], 7, 112, [.string ⟨#[]⟩, .slice none 0 0, .int .i64 0, .slice none 0 0, .int .i64 0, .int .i64 0, .slice none 0 0], some qam⟩) (.node (some ⟨.other, 1, 8, [.nilFunc], none⟩) (.node (some ⟨.other, 1, 8, [.nilFunc], none⟩) .leaf .leaf) .leaf) (.node (some ⟨.other, 1, 8, [.nilFunc], none⟩) .leaf .leaf)) (.node (some ⟨.struct [⟨0, 1, false⟩, ⟨1, 1, false⟩, ⟨2, 1, false⟩, ⟨3, 1, false⟩, ⟨4, 1, false⟩], 5, 96, [.string ⟨#[]⟩, .slice none 0 0, .int .i64 0, .slice none 0 0, .slice none 0 0], some qaa⟩) (.node (some ⟨.struct [⟨0, 5, true⟩], 5, 40, [.int .i64 0, .int .i64 0, .int .i64 0, .int .i64 0, .int .i64 0], some s_verify_failure⟩) (.node (some ⟨.int .i32, 1, 4, [.int .i32 0], some (.int .i32)⟩) .leaf .leaf) .leaf) (.node (some ⟨.other, 1, 8, [.nilFunc], none⟩) .leaf .leaf))))) (.node (some ⟨.int .u8, 1, 1, [.int .u8 0], some (.int .u8)⟩) (.node (some ⟨.str, 1, 16, [.string ⟨#[]⟩], some .str⟩) (.node (some ⟨.ptr 158, 1, 8, [.pointer none], none⟩) (.node (some ⟨.other, 1, 8, [.nilFunc], none⟩) (.node (some ⟨.struct [⟨0, 2, true⟩, ⟨2, 7, true⟩], 9, 160, [.slice none 0 0, .slice none 0 0, .string ⟨#[]⟩, .slice none 0 0, .int .i64 0, .slice none 0 0, .int .i64 0, .int .i64 0, .slice none 0 0], some qab⟩) (.node (some ⟨.other, 1, 8, [.nilFunc], none⟩) .leaf .leaf) .leaf) (.node (some ⟨.struct [⟨0, 1, false⟩, ⟨1, 1, false⟩, ⟨2, 1, false⟩, ⟨3, 1, false⟩, ⟨4, 1, false⟩], 5, 64, [.string ⟨#[]⟩, .int .i64 0, .int .i64 0, .slice none 0 0, .bool false], some qaf⟩) .leaf .leaf)) (.node (some ⟨.arr 42 3, 42, 336, [.int .i64 0, .int .i64 0, .int .i64 0, .int .i64 0, .int .i64 0, .int .i64 0, .int .i64 0, .int .i64 0, .int .i64 0, .int .i64 0, .int .i64 0, .int .i64 0, .int .i64 0, .int .i64 0, .int .i64 0, .int .i64 0, .int .i64 0, .int .i64 0, .int .i64 0, .int .i64 0, .int .i64 0, .int .i64 0, .int .i64 0, .int .i64 0, .int .i64 0, .int .i64 0, .int .i64 0, .int .i64 0, .int .i64 0, .int .i64 0, .int .i64 0, .int .i64 0, .int .i64 0, .int .i64 0, .int .i64 0, .int .i64 0, .int .i64 0, .int .i64 0, .int .i64 0, .int .i64 0, .int .i64 0, .int .i64 0], some (.arr 42 I)⟩) (.node (some ⟨.other, 1, 8, [.nilFunc], none⟩) (.node (some ⟨.struct [⟨0, 1, false⟩, ⟨1, 1, false⟩, ⟨2, 1, false⟩, ⟨3, 1, false⟩], 4, 40, [.pointer none, .pointer none, .pointer none, .string ⟨#[]⟩], none⟩) .leaf .leaf) .leaf) (.node (some ⟨.other, 1, 8, [.nilFunc], none⟩) .leaf .leaf))) (.node (some ⟨.other, 1, 8, [.nilFunc], none⟩) (.node (some ⟨.slice 58, 1, 24, [.slice none 0 0], some (.sl 136 qac)⟩) (.node (some ⟨.other, 1, 8, [.nilFunc], none⟩) (.node (some ⟨.int .u64, 1, 8, [.int .u64 0], some (.int .u64)⟩) .leaf .leaf) .leaf) (.node (some ⟨.other, 1, 8, [.nilFunc], none⟩) .leaf .leaf)) (.node (some ⟨.struct [⟨0, 1, false⟩, ⟨1, 1, false⟩, ⟨2, 5, true⟩], 7, 136, [.slice none 0 0, .slice none 0 0, .int .i64 0, .slice none 0 0, .slice none 0 0, .slice none 0 0, .int .i64 0], some qac⟩) (.node (some ⟨.other, 1, 8, [.nilFunc], none⟩) (.node (some ⟨.other, 1, 8, [.nilFunc], none⟩) .leaf .leaf) .leaf) (.node (some ⟨.int .u64, 1, 8, [.int .u64 0], some (.int .u64)⟩) .leaf .leaf)))) (.node (some ⟨.struct [⟨0, 1, false⟩, ⟨1, 1, false⟩], 2, 24, [.string ⟨#[]⟩, .int .u64 0], some qes⟩) (.node (some ⟨.int .i32, 1, 4, [.int .i32 0], some (.int .i32)⟩) (.node (some ⟨.struct [⟨0, 1, false⟩, ⟨1, 1, false⟩], 2, 48, [.slice none 0 0, .slice none 0 0], some qah⟩) (.node (some ⟨.other, 1, 8, [.nilFunc], none⟩) (.node (some ⟨.other, 1, 8, [.nilFunc], none⟩) .leaf .leaf) .leaf) (.node (some ⟨.other, 1, 8, [.nilFunc], none⟩) .leaf .leaf)) (.node (some ⟨.slice 77, 1, 24, [.slice none 0 0], some (.sl 32 qae)⟩) (.node (some ⟨.other, 1, 8, [.nilFunc], none⟩) (.node (some ⟨.struct [⟨0, 0, true⟩], 0, 0, [], none⟩) .leaf .leaf) .leaf) (.node (some ⟨.other, 1, 8, [.nilFunc], none⟩) .leaf .leaf))) (.node (some ⟨.other, 1, 8, [.nilFunc], none⟩) (.node (some ⟨.other, 1, 8, [.nilFunc], none⟩) (.node (some ⟨.struct [⟨0, 1, false⟩, ⟨1, 1, false⟩], 2, 32, [.int .i64 0, .slice none 0 0], some qae⟩) (.node (some ⟨.other, 1, 8, [.nilFunc], none⟩) .leaf .leaf) .leaf) (.node (some ⟨.struct [⟨0, 1, false⟩, ⟨1, 1, false⟩], 2, 24, [.string ⟨#[]⟩, .int .i64 0], some qao⟩) .leaf .leaf)) (.node (some ⟨.struct [⟨0, 1, false⟩, ⟨1, 1, false⟩, ⟨2, 1, false⟩, ⟨3, 1, false⟩, ⟨4, 1, false⟩], 5, 40, [.int .i64 0, .int .i64 0, .int .i64 0, .int .i64 0, .int .i64 0], some qat⟩) (.node (some ⟨.struct [⟨0, 1, false⟩, ⟨1, 1, false⟩, ⟨2, 1, false⟩, ⟨3, 1, false⟩], 4, 32, [.int .i64 0, .int .i64 0, .int .i64 0, .int .i64 0], some qak⟩) (.node (some ⟨.struct [⟨0, 1, false⟩, ⟨1, 1, false⟩, ⟨2, 1, false⟩, ⟨3, 1, false⟩, ⟨4, 1, false⟩, ⟨5, 1, false⟩, ⟨6, 1, false⟩, ⟨7, 1, false⟩, ⟨8, 1, false⟩, ⟨9, 1, false⟩, ⟨10, 1, false⟩], 11, 48, [.int .u64 0, .int .u64 0, .int .u32 0, .int .u8 0, .int .u8 0, .int .u8 0, .int .u8 0, .nilFunc, .pointer none, .int .i32 0, .int .i32 0], none⟩) .leaf .leaf) .leaf) (.node none .leaf .leaf)))))) (.node (some ⟨.int .i64, 1, 8, [.int .i64 0], some I⟩) (.node (some ⟨.bool, 1, 1, [.bool false], some .bool⟩) (.node (some ⟨.struct [⟨0, 1, false⟩, ⟨1, 1, false⟩, ⟨2, 1, false⟩, ⟨3, 1, false⟩], 4, 24, [.int .i64 0, .int .i64 0, .bool false, .int .u8 0], some s_runtime_boundsError⟩) (.node (some ⟨.ptr 149, 1, 8, [.pointer none], none⟩) (.node (some ⟨.other, 1, 8, [.nilFunc], none⟩) (.node (some ⟨.struct [⟨0, 2, true⟩, ⟨2, 7, true⟩], 9, 160, [.slice none 0 0, .slice none 0 0, .string ⟨#[]⟩, .slice none 0 0, .int .i64 0, .slice none 0 0, .int .i64 0, .int .i64 0, .slice none 0 0], some qab⟩) (.node (some ⟨.other, 1, 8, [.nilFunc], none⟩) .leaf .leaf) .leaf) (.node (some ⟨.slice 9, 1, 24, [.slice none 0 0], some (.sl 16 .str)⟩) .leaf .leaf)) (.node (some ⟨.other, 1, 8, [.nilFunc], none⟩) (.node (some ⟨.other, 1, 8, [.nilFunc], none⟩) (.node (some ⟨.other, 1, 8, [.nilFunc], none⟩) .leaf .leaf) .leaf) (.node (some ⟨.other, 1, 8, [.nilFunc], none⟩) .leaf .leaf))) (.node (some ⟨.struct [⟨0, 1, false⟩, ⟨1, 1, false⟩, ⟨2, 1, false⟩], 3, 40, [.int .i64 0, .int .i64 0, .slice none 0 0], some qaj⟩) (.node (some ⟨.slice 39, 1, 24, [.slice none 0 0], some (.sl 8 I)⟩) (.node (some ⟨.other, 1, 8, [.nilFunc], none⟩) (.node (some ⟨.arr 65 5, 65, 65, [.int .u8 0, .int .u8 0, .int .u8 0, .int .u8 0, .int .u8 0, .int .u8 0, .int .u8 0, .int .u8 0, .int .u8 0, .int .u8 0, .int .u8 0, .int .u8 0, .int .u8 0, .int .u8 0, .int .u8 0, .int .u8 0, .int .u8 0, .int .u8 0, .int .u8 0, .int .u8 0, .int .u8 0, .int .u8 0, .int .u8 0, .int .u8 0, .int .u8 0, .int .u8 0, .int .u8 0, .int .u8 0, .int .u8 0, .int .u8 0, .int .u8 0, .int .u8 0, .int .u8 0, .int .u8 0, .int .u8 0, .int .u8 0, .int .u8 0, .int .u8 0, .int .u8 0, .int .u8 0, .int .u8 0, .int .u8 0, .int .u8 0, .int .u8 0, .int .u8 0, .int .u8 0, .int .u8 0, .int .u8 0, .int .u8 0, .int .u8 0, .int .u8 0, .int .u8 0, .int .u8 0, .int .u8 0, .int .u8 0, .int .u8 0, .int .u8 0, .int .u8 0, .int .u8 0, .int .u8 0, .int .u8 0, .int .u8 0, .int .u8 0, .int .u8 0, .int .u8 0], some (.arr 65 (.int .u8))⟩) .leaf .leaf) .leaf) (.node (some ⟨.slice 46, 1, 24, [.slice none 0 0], some (.sl 8 I)⟩) .leaf .leaf)) (.node (some ⟨.slice 68, 1, 24, [.slice none 0 0], some (.sl 80 qad)⟩) (.node (some ⟨.other, 1, 8, [.nilFunc], none⟩) (.node (some ⟨.int .u8, 1, 1, [.int .u8 0], some (.int .u8)⟩) .leaf .leaf) .leaf) (.node (some ⟨.arr 24 5, 24, 24, [.int .u8 0, .int .u8 0, .int .u8 0, .int .u8 0, .int .u8 0, .int .u8 0, .int .u8 0, .int .u8 0, .int .u8 0, .int .u8 0, .int .u8 0, .int .u8 0, .int .u8 0, .int .u8 0, .int .u8 0, .int .u8 0, .int .u8 0, .int .u8 0, .int .u8 0, .int .u8 0, .int .u8 0, .int .u8 0, .int .u8 0, .int .u8 0], some (.arr 24 (.int .u8))⟩) .leaf .leaf)))) (.node (some ⟨.int .u64, 1, 8, [.int .u64 0], some (.int .u64)⟩) (.node (some ⟨.other, 1, 16, [.nilIface], none⟩) (.node (some ⟨.slice 60, 1, 24, [.slice none 0 0], some (.sl 96 qaa)⟩) (.node (some ⟨.struct [⟨0, 1, false⟩, ⟨1, 1, false⟩, ⟨2, 1, false⟩, ⟨3, 1, false⟩, ⟨4, 1, false⟩, ⟨5, 1, false⟩, ⟨6, 1, false⟩, ⟨7, 1, false⟩], 8, 80, [.int .i64 0, .int .i64 0, .int .i64 0, .slice none 0 0, .int .i64 0, .int .i64 0, .int .i64 0, .bool false], some qad⟩) (.node (some ⟨.other, 1, 8, [.nilFunc], none⟩) .leaf .leaf) .leaf) (.node (some ⟨.other, 1, 8, [.nilFunc], none⟩) .leaf .leaf)) (.node (some ⟨.slice 2, 1, 24, [.slice none 0 0], some (.sl 8 I)⟩) (.node (some ⟨.other, 1, 8, [.nilFunc], none⟩) (.node (some ⟨.struct [⟨0, 0, true⟩], 0, 0, [], none⟩) .leaf .leaf) .leaf) (.node (some ⟨.other, 1, 8, [.nilFunc], none⟩) .leaf .leaf))) (.node (some ⟨.other, 1, 8, [.nilFunc], none⟩) (.node none (.node (some ⟨.struct [⟨0, 1, false⟩, ⟨1, 1, false⟩], 2, 32, [.int .i64 0, .slice none 0 0], some qae⟩) (.node (some ⟨.arr 5 3, 5, 40, [.int .i64 0, .int .i64 0, .int .i64 0, .int .i64 0, .int .i64 0], some (.arr 5 I)⟩) .leaf .leaf) .leaf) (.node (some ⟨.struct [⟨0, 1, false⟩, ⟨1, 1, false⟩], 2, 24, [.string ⟨#[]⟩, .int .i64 0], some qao⟩) .leaf .leaf)) (.node (some ⟨.struct [⟨0, 1, false⟩, ⟨1, 1, false⟩, ⟨2, 1, false⟩, ⟨3, 1, false⟩, ⟨4, 1, false⟩], 5, 96, [.string ⟨#[]⟩, .slice none 0 0, .int .i64 0, .slice none 0 0, .slice none 0 0], some qaa⟩) (.node none (.node (some ⟨.int .i32, 1, 4, [.int .i32 0], some (.int .i32)⟩) .leaf .leaf) .leaf) (.node (some ⟨.slice 5, 1, 24, [.slice none 0 0], some (.sl 1 (.int .u8))⟩) .leaf .leaf))))) (.node (some ⟨.int .u8, 1, 1, [.int .u8 0], some (.int .u8)⟩) (.node (some ⟨.str, 1, 16, [.string ⟨#[]⟩], some .str⟩) (.node (some ⟨.struct [⟨0, 1, false⟩], 1, 8, [.pointer none], none⟩) (.node (some ⟨.other, 1, 8, [.nilFunc], none⟩) (.node (some ⟨.other, 1, 8, [.nilFunc], none⟩) (.node (some ⟨.other, 1, 8, [.nilFunc], none⟩) .leaf .leaf) .leaf) (.node (some ⟨.struct [⟨0, 1, false⟩, ⟨1, 1, false⟩, ⟨2, 1, false⟩, ⟨3, 1, false⟩, ⟨4, 1, false⟩], 5, 64, [.string ⟨#[]⟩, .int .i64 0, .int .i64 0, .slice none 0 0, .bool false], some qaf⟩) .leaf .leaf)) (.node (some ⟨.other, 1, 8, [.nilFunc], none⟩) (.node (some ⟨.other, 1, 8, [.nilFunc], none⟩) (.node (some ⟨.struct [⟨0, 1, false⟩, ⟨1, 1, false⟩, ⟨2, 1, false⟩, ⟨3, 1, false⟩], 4, 40, [.pointer none, .pointer none, .pointer none, .string ⟨#[]⟩], none⟩) .leaf .leaf) .leaf) (.node (some ⟨.other, 1, 8, [.nilFunc], none⟩) .leaf .leaf))) (.node (some ⟨.struct [⟨0, 1, false⟩, ⟨1, 1, false⟩, ⟨2, 1, false⟩], 3, 40, [.int .i64 0, .int .i64 0, .slice none 0 0], some qaj⟩) (.node (some ⟨.struct [⟨0, 1, false⟩, ⟨1, 1, false⟩, ⟨2, 1, false⟩, ⟨3, 1, false⟩, ⟨4, 1, false⟩, ⟨5, 1, false⟩, ⟨6, 1, false⟩], 7, 112, [.string ⟨#[]⟩, .slice none 0 0, .int .i64 0, .slice none 0 0, .int .i64 0, .int .i64 0, .slice none 0 0], some qam⟩) (.node (some ⟨.other, 1, 8, [.nilFunc], none⟩) (.node (some ⟨.other, 1, 8, [.nilFunc], none⟩) .leaf .leaf) .leaf) (.node (some ⟨.slice 109, 1, 24, [.slice none 0 0], some (.sl 24 qao)⟩) .leaf .leaf)) (.node (some ⟨.struct [⟨0, 1, false⟩, ⟨1, 1, false⟩, ⟨2, 5, true⟩], 7, 136, [.slice none 0 0, .slice none 0 0, .int .i64 0, .slice none 0 0, .slice none 0 0, .slice none 0 0, .int .i64 0], some qac⟩) (.node (some ⟨.struct [⟨0, 5, true⟩], 5, 40, [.int .i64 0, .int .i64 0, .int .i64 0, .int .i64 0, .int .i64 0], some s_verify_failure⟩) (.node (some ⟨.ptr 5, 1, 8, [.pointer none], some (.ptr (.int .u8))⟩) .leaf .leaf) .leaf) (.node (some ⟨.other, 1, 8, [.nilFunc], none⟩) .leaf .leaf)))) (.node (some ⟨.struct [⟨0, 1, false⟩, ⟨1, 1, false⟩], 2, 24, [.string ⟨#[]⟩, .int .u64 0], some qes⟩) (.node (some ⟨.slice 3, 1, 24, [.slice none 0 0], some (.sl 8 I)⟩) (.node (some ⟨.struct [⟨0, 1, false⟩, ⟨1, 1, false⟩], 2, 48, [.slice none 0 0, .slice none 0 0], some qah⟩) (.node (some ⟨.other, 1, 8, [.nilFunc], none⟩) (.node (some ⟨.arr 20 121, 20, 160, [.int .u64 0, .int .u64 0, .int .u64 0, .int .u64 0, .int .u64 0, .int .u64 0, .int .u64 0, .int .u64 0, .int .u64 0, .int .u64 0, .int .u64 0, .int .u64 0, .int .u64 0, .int .u64 0, .int .u64 0, .int .u64 0, .int .u64 0, .int .u64 0, .int .u64 0, .int .u64 0], some (.arr 20 (.int .u64))⟩) .leaf .leaf) .leaf) (.node (some ⟨.other, 1, 8, [.nilFunc], none⟩) .leaf .leaf)) (.node (some ⟨.struct [⟨0, 1, false⟩, ⟨1, 1, false⟩, ⟨2, 1, false⟩, ⟨3, 1, false⟩, ⟨4, 1, false⟩], 5, 88, [.int .i64 0, .slice none 0 0, .slice none 0 0, .slice none 0 0, .int .i64 0], some qai⟩) (.node (some ⟨.other, 1, 8, [.nilFunc], none⟩) (.node (some ⟨.other, 1, 8, [.nilFunc], none⟩) .leaf .leaf) .leaf) (.node (some ⟨.other, 1, 8, [.nilFunc], none⟩) .leaf .leaf))) (.node (some ⟨.other, 1, 8, [.nilFunc], none⟩) (.node (some ⟨.int .i64, 1, 8, [.int .i64 0], some I⟩) (.node (some ⟨.other, 1, 8, [.nilFunc], none⟩) (.node (some ⟨.arr 32 5, 32, 32, [.int .u8 0, .int .u8 0, .int .u8 0, .int .u8 0, .int .u8 0, .int .u8 0, .int .u8 0, .int .u8 0, .int .u8 0, .int .u8 0, .int .u8 0, .int .u8 0, .int .u8 0, .int .u8 0, .int .u8 0, .int .u8 0, .int .u8 0, .int .u8 0, .int .u8 0, .int .u8 0, .int .u8 0, .int .u8 0, .int .u8 0, .int .u8 0, .int .u8 0, .int .u8 0, .int .u8 0, .int .u8 0, .int .u8 0, .int .u8 0, .int .u8 0, .int .u8 0], some (.arr 32 (.int .u8))⟩) .leaf .leaf) .leaf) (.node (some ⟨.other, 1, 8, [.nilFunc], none⟩) .leaf .leaf)) (.node (some ⟨.struct [⟨0, 1, false⟩, ⟨1, 1, false⟩, ⟨2, 1, false⟩, ⟨3, 1, false⟩, ⟨4, 1, false⟩], 5, 40, [.int .i64 0, .int .i64 0, .int .i64 0, .int .i64 0, .int .i64 0], some qat⟩) (.node (some ⟨.struct [⟨0, 1, false⟩, ⟨1, 1, false⟩, ⟨2, 1, false⟩, ⟨3, 1, false⟩], 4, 32, [.int .i64 0, .int .i64 0, .int .i64 0, .int .i64 0], some qak⟩) (.node (some ⟨.struct [⟨0, 1, false⟩, ⟨1, 1, false⟩, ⟨2, 1, false⟩, ⟨3, 1, false⟩, ⟨4, 1, false⟩, ⟨5, 1, false⟩, ⟨6, 1, false⟩, ⟨7, 1, false⟩, ⟨8, 1, false⟩, ⟨9, 1, false⟩, ⟨10, 1, false⟩], 11, 48, [.int .u64 0, .int .u64 0, .int .u32 0, .int .u8 0, .int .u8 0, .int .u8 0, .int .u8 0, .nilFunc, .pointer none, .int .i32 0, .int .i32 0], none⟩) .leaf .leaf) .leaf) (.node (some ⟨.other, 1, 8, [.nilFunc], none⟩) .leaf .leaf)))))))
def gl : Nat → Option AV
 | 1 => some (.rtp (.arr 5 I) ((0 : Int), (1 : Int), (8 : Int), (32 : Int), (64 : Int), ()))
 | _ => none
def fnL : List Nat := [3, 4, 5, 6, 7, 8, 9, 10, 11, 12, 13, 14, 15, 16, 17, 18, 19, 20, 21, 22, 23, 24, 25, 26, 27, 28, 29, 30, 31, 32, 33, 34, 35, 36, 37, 38, 39, 40, 41, 42, 43, 44, 45, 46, 47, 48, 49, 50, 51, 52, 53, 54, 55, 56, 57, 58, 59, 60, 61, 62, 63, 64, 65, 66, 67, 68, 69, 70, 71, 72, 73, 74, 75, 76, 77, 78, 79, 80, 81, 82, 83, 84, 85, 86, 87, 88, 89, 90, 91, 92, 93, 94, 95, 96, 97]
abbrev qdn : FuncId := 3
abbrev f_law50_works : FuncId := 4
abbrev qea : FuncId := 5
abbrev qec : FuncId := 6
abbrev qbc : FuncId := 7
abbrev qbq : FuncId := 8
abbrev qcs : FuncId := 9
abbrev qdz : FuncId := 10
abbrev f_r50_Latency : FuncId := 11
abbrev f_law50_empty : FuncId := 12
abbrev qce : FuncId := 13
abbrev qbz : FuncId := 15
abbrev qel : FuncId := 16
abbrev qfk : FuncId := 17
abbrev qaz : FuncId := 18
abbrev qcd : FuncId := 19
abbrev qaq : FuncId := 20
abbrev qdy : FuncId := 21
abbrev qdj : FuncId := 22
abbrev qgm : FuncId := 23
abbrev qgq : FuncId := 26
abbrev f_verify_first : FuncId := 27
abbrev qar : FuncId := 28
abbrev qby : FuncId := 29
abbrev qbe : FuncId := 30
abbrev qcb : FuncId := 31
abbrev qdc : FuncId := 32
abbrev qem : FuncId := 33
abbrev qen : FuncId := 34
abbrev qbn : FuncId := 35
abbrev qbm : FuncId := 36
abbrev f_opcode_Name : FuncId := 37
abbrev qbs : FuncId := 38
abbrev qcj : FuncId := 39
abbrev qdi : FuncId := 40
abbrev qbo : FuncId := 41
abbrev qcc : FuncId := 42
abbrev qbt : FuncId := 43
abbrev qbg : FuncId := 44
abbrev qbi : FuncId := 47
abbrev qda : FuncId := 49
abbrev qba : FuncId := 50
abbrev qfj : FuncId := 51
abbrev qej : FuncId := 52
abbrev qfi : FuncId := 53
abbrev qcz : FuncId := 54
abbrev qau : FuncId := 55
abbrev qbb : FuncId := 56
abbrev f_opcode_rows : FuncId := 57
abbrev qay : FuncId := 58
abbrev qfp : FuncId := 59
abbrev qfl : FuncId := 60
abbrev qgp : FuncId := 61
abbrev qgn : FuncId := 62
abbrev qfm : FuncId := 63
abbrev qdg : FuncId := 64
abbrev qfq : FuncId := 65
abbrev qbp : FuncId := 66
abbrev f_intn_Wrap : FuncId := 67
abbrev qbd : FuncId := 68
abbrev qew : FuncId := 70
abbrev qeo : FuncId := 72
abbrev qdd : FuncId := 73
abbrev f_intn_Bits : FuncId := 74
abbrev qdw : FuncId := 75
abbrev qbl : FuncId := 76
abbrev qgl : FuncId := 77
abbrev qei : FuncId := 78
abbrev qbf : FuncId := 79
abbrev qgo : FuncId := 80
abbrev qek : FuncId := 81
abbrev qed : FuncId := 82
abbrev qfn : FuncId := 83
abbrev qdx : FuncId := 84
abbrev qfo : FuncId := 85
abbrev qdb : FuncId := 86
abbrev qax : FuncId := 87
abbrev f_lexer_word : FuncId := 93
abbrev f_lexer_digit : FuncId := 94
abbrev qgr : FuncId := 97
def siteTr : Tr (List (Nat × Nat)) := (.node none (.node none (.node (some [(2, 1)]) (.node none (.node (some [(0, 2), (1, 2)]) (.node (some [(2, 1), (5, 2), (11, 2)]) (.node (some [(2, 1), (3, 1)]) .leaf .leaf) .leaf) (.node (some [(2, 2)]) .leaf .leaf)) (.node none (.node (some [(2, 1), (3, 1)]) .leaf .leaf) (.node (some [(4, 1), (5, 1), (6, 1), (7, 1)]) .leaf .leaf))) (.node (some [(2, 1)]) (.node (some [(2, 1), (3, 1)]) (.node (some [(2, 1)]) .leaf .leaf) .leaf) (.node (some [(2, 2)]) (.node (some [(3, 1), (4, 1)]) (.node (some [(2, 1)]) .leaf .leaf) .leaf) (.node (some [(1, 1)]) .leaf .leaf)))) (.node (some [(1, 0)]) (.node (some [(1, 1)]) (.node (some [(1, 1), (2, 2)]) .leaf .leaf) (.node none (.node (some [(2, 1), (3, 1)]) .leaf .leaf) .leaf)) (.node (some [(2, 1), (3, 1)]) .leaf (.node (some [(5, 2)]) (.node none (.node (some [(3, 1), (4, 1), (5, 1)]) .leaf .leaf) .leaf) (.node (some [(2, 1), (3, 1)]) .leaf .leaf))))) (.node none (.node none (.node (some [(1, 1)]) (.node none (.node none (.node (some [(2, 1)]) .leaf .leaf) .leaf) (.node (some [(3, 1)]) .leaf .leaf)) (.node none (.node (some [(3, 1), (4, 1), (5, 1)]) (.node (some [(12, 2)]) .leaf .leaf) .leaf) .leaf)) (.node none (.node (some [(2, 1), (3, 1)]) .leaf .leaf) (.node none (.node (some [(2, 1), (3, 1)]) .leaf .leaf) (.node (some [(2, 1), (3, 1)]) .leaf .leaf)))) (.node none (.node (some [(2, 1)]) (.node (some [(1, 1)]) (.node none (.node (some [(2, 1), (3, 1)]) .leaf .leaf) .leaf) .leaf) (.node none (.node (some [(2, 1), (3, 1)]) .leaf .leaf) (.node (some [(2, 1)]) .leaf .leaf))) (.node (some [(1, 1)]) (.node none (.node (some [(1, 1)]) .leaf .leaf) (.node (some [(3, 1), (4, 1)]) (.node (some [(3, 1), (5, 1)]) .leaf .leaf) .leaf)) (.node (some [(5, 2)]) (.node (some [(5, 2)]) (.node (some [(5, 1), (6, 1), (7, 1)]) .leaf .leaf) .leaf) (.node (some [(3, 1), (5, 1)]) .leaf .leaf))))))
noncomputable def ctx (l : List (FuncId × FSpec)) : Ctx := { P := Tryd.prog, ty := tyOf tyN tyTr, gl := gl, env := envOf l, fns := fnsOf fnL, pans := fnsOf [28, 29, 30, 31, 48, 54, 55], site := siteOf siteTr }
theorem ty_ok : TyOK Tryd.prog (tyOf tyN tyTr) := chkTy_ok (by kernel_rfl)
theorem fns_ok (l : List (FuncId × FSpec)) : FnsOK (ctx l) := chkFns_ok (by kernel_rfl)
theorem qch {l : List (FuncId × FSpec)} (h : ∀ x ∈ l, qal (ctx []) x.1 x.2) : EOK (ctx l) := ⟨ty_ok, envOK_of rfl h, fns_ok l, by kernel_rfl⟩
theorem E0_ok : EOK (ctx []) := qch (by simp)
end Burn.MM
namespace Burn.MM
open Go Go.BE Go.Proofs
set_option maxRecDepth 100000
set_option linter.unusedVariables false
set_option linter.unusedSimpArgs false
open Burn.Intn Burn.Ref
noncomputable abbrev E_A1 : Ctx := ctx []
theorem E_A1_ok : EOK E_A1 := E0_ok
def cuts_A1 : CutL := []
def rets_A1 : FuncId → List (Option Fx)
 | _ => []
def H_A1 : Hints := { cut := cutOf cuts_A1, ret := rets_A1 }
theorem intn_Bits_t (t : Int) : run E_A1 H_A1 f_intn_Bits 3000 (start E_A1 f_intn_Bits [(vi t)]) = (cond (decide (t < (0 : Int))) (rt (vi (0 : Int)) []) (cond (decide (t ≥ (5 : Int))) (rt (vi (0 : Int)) []) (.chk (0 ≤ t ∧ t < (5 : Nat)) (rt (vi (z (vget (dz I) 5 (((0 : Int), (1 : Int), (8 : Int), (32 : Int), (64 : Int), ())) t.toNat))) [])))) := by kernel_rfl

def k_intn_Bits : Con := con [.d I] I (fun x => True) fun x => bitsZ x.1
theorem m_intn_Bits (t : Int) (h_t : okD I t) (hp : True) : Runs E_A1 (start E_A1 f_intn_Bits [(vi t)]) (fun r_ h_ => r_ = (vi (bitsZ t)) ∧ h_ = []) := .tree E_A1_ok (intn_Bits_t t) (by
 simp only [sS,  bitsZ, z]
 refine ⟨by grind, fun h1 => ⟨by grind, fun h2 => ⟨by grind, fun h3 => ?_⟩⟩⟩
 have : t = 0 ∨ t = 1 ∨ t = 2 ∨ t = 3 ∨ t = 4 := by omega
 rcases this with rfl | rfl | rfl | rfl | rfl <;> rfl)
theorem c_intn_Bits : qal E_A1 f_intn_Bits k_intn_Bits.spec := qan fun x hx hp => ⟨rfl, m_intn_Bits x.1 hx.1 hp⟩
def L_A1 : List (FuncId × FSpec) := [(f_intn_Bits, k_intn_Bits.spec)] ++ []
theorem L_A1_ok : ∀ x ∈ L_A1, qal (ctx []) x.1 x.2 := by
 unfold L_A1
 simp only [List.cons_append, List.nil_append, List.forall_mem_cons]
 exact ⟨c_intn_Bits, by simp⟩
end Burn.MM
namespace Burn.MM
open Go Go.BE Go.Proofs
set_option maxRecDepth 100000
set_option linter.unusedVariables false
set_option linter.unusedSimpArgs false
open Burn.Intn Burn.Ref
noncomputable abbrev E_A2 : Ctx := ctx L_A1
theorem E_A2_ok : EOK E_A2 := qch L_A1_ok
def cuts_A2 : CutL := []
def rets_A2 : FuncId → List (Option Fx)
 | _ => []
def H_A2 : Hints := { cut := cutOf cuts_A2, ret := rets_A2 }
theorem intn_Wrap_t (t : Int) (n : Int) : run E_A2 H_A2 f_intn_Wrap 3000 (start E_A2 f_intn_Wrap [(vi t), (vi n)]) = (.chk (True) (.know (okD (.int .i64) (bitsZ t)) (cond ((bitsZ t) == (0 : Int)) (rt (vi (0 : Int)) []) (cond ((bitsZ t) == (1 : Int)) (rt (vi (IntKind.wrap .i64 (bvand .i64 n (1 : Int)))) []) (.chk (0 ≤ (IntKind.wrap .i64 ((64 : Int) - (bitsZ t)))) (.chk (0 ≤ (IntKind.wrap .i64 ((64 : Int) - (bitsZ t)))) (rt (vi (Int.fdiv (IntKind.wrap .i64 (n * 2 ^ min ((IntKind.wrap .i64 ((64 : Int) - (bitsZ t)))).toNat (IntKind.bits .i64))) (2 ^ min ((IntKind.wrap .i64 ((64 : Int) - (bitsZ t)))).toNat (IntKind.bits .i64)))) []))))))) := by kernel_rfl
theorem b1 : bitsZ 1 = 1 := rfl
theorem b2 : bitsZ 2 = 8 := rfl
theorem b3 : bitsZ 3 = 32 := rfl
theorem b4 : bitsZ 4 = 64 := rfl
theorem u1 (n : Int) : unsZ 1 n = n % 2 := rfl
theorem u2 (n : Int) : unsZ 2 n = n % 256 := rfl
def k_intn_Wrap : Con := con [.d I, .d I] I (fun x => True) fun x => wrapZ x.1 x.2.1
theorem m_intn_Wrap (t : Int) (n : Int) (h_t : okD I t) (h_n : okD I n) (hp : True) : Runs E_A2 (start E_A2 f_intn_Wrap [(vi t), (vi n)]) (fun r_ h_ => r_ = (vi (wrapZ t n)) ∧ h_ = []) := .tree E_A2_ok (intn_Wrap_t t n) (by
 simp only [sS,  z]
 rcases tcases t with rfl | rfl | rfl | rfl | h
 ·have := and1 n
  rw [← wrap1] at this
  exact fun _ => ⟨fun h => absurd h (by decide), fun _ => ⟨fun _ => by rw [this], fun h => absurd h (by decide)⟩⟩
 ·have := sh n 56 (.inl rfl)
  simp [b2, w64] at this ⊢
  exact fun _ => this
 ·have := sh n 32 (.inr (.inl rfl))
  simp [b3, w64] at this ⊢
  exact fun _ => this
 ·have := sh n 0 (.inr (.inr rfl))
  simp [b4, w64] at this ⊢
  exact fun _ => this
 ·simp [other h, wrap_other h])
theorem c_intn_Wrap : qal E_A2 f_intn_Wrap k_intn_Wrap.spec := qan fun x hx hp => ⟨rfl, m_intn_Wrap x.1 x.2.1 hx.1 hx.2.1 hp⟩
def L_A2 : List (FuncId × FSpec) := [(f_intn_Wrap, k_intn_Wrap.spec)] ++ L_A1
theorem L_A2_ok : ∀ x ∈ L_A2, qal (ctx []) x.1 x.2 := by
 unfold L_A2
 simp only [List.cons_append, List.nil_append, List.forall_mem_cons]
 exact ⟨c_intn_Wrap, L_A1_ok⟩
end Burn.MM
namespace Burn.MM
open Go Go.BE Go.Proofs
set_option maxRecDepth 100000
set_option linter.unusedVariables false
set_option linter.unusedSimpArgs false
open Burn.Intn Burn.Ref
def L_A3 : List (FuncId × FSpec) := [] ++ L_A2
theorem L_A3_ok : ∀ x ∈ L_A3, qal (ctx []) x.1 x.2 := L_A2_ok
end Burn.MM
namespace Burn.MM
open Go Go.BE Go.Proofs
set_option maxRecDepth 100000
set_option linter.unusedVariables false
set_option linter.unusedSimpArgs false
noncomputable abbrev E_V1 : Ctx := ctx L_A3
theorem E_V1_ok : EOK E_V1 := qch L_A3_ok
def cuts_V1 : CutL := []
def rets_V1 : FuncId → List (Option Fx)
 | 57 => [some (.dat (.sl 24 qao))]
 | _ => []
def H_V1 : Hints := { cut := cutOf cuts_V1, ret := rets_V1 }
theorem lexer_letter_t (c : Int) : run E_V1 H_V1 qgr 3000 (start E_V1 qgr [(aint .u8 c)]) = (cond (decide (c ≥ (65 : Int))) (cond (decide (c ≤ (90 : Int))) (rt (vb true) []) (cond (decide (c ≥ (97 : Int))) (cond (decide (c ≤ (122 : Int))) (rt (vb true) []) (rt (vb (c == (95 : Int))) [])) (rt (vb (c == (95 : Int))) []))) (cond (decide (c ≥ (97 : Int))) (cond (decide (c ≤ (122 : Int))) (rt (vb true) []) (rt (vb (c == (95 : Int))) [])) (rt (vb (c == (95 : Int))) []))) := by kernel_rfl
theorem lexer_digit_t (c : Int) : run E_V1 H_V1 f_lexer_digit 3000 (start E_V1 f_lexer_digit [(aint .u8 c)]) = (cond (decide (c ≥ (48 : Int))) (rt (vb (decide (c ≤ (57 : Int)))) []) (rt (vb false) [])) := by kernel_rfl
theorem opcode_Access_t (t : Int) : run E_V1 H_V1 qfq 3000 (start E_V1 qfq [(vi t)]) = (cond (t == (2 : Int)) (rt (.tup [(vi t), (vi (1 : Int))]) []) (cond (t == (3 : Int)) (rt (.tup [(vi t), (vi (1 : Int))]) []) (cond (t == (4 : Int)) (rt (.tup [(vi t), (vi (1 : Int))]) []) (cond (t == (5 : Int)) (rt (.tup [(vi t), (vi (1 : Int))]) []) (cond (t == (6 : Int)) (rt (.tup [(vi (3 : Int)), (vi (2 : Int))]) []) (cond (t == (7 : Int)) (rt (.tup [(vi (3 : Int)), (vi (4 : Int))]) []) (rt (.tup [(vi (0 : Int)), (vi (0 : Int))]) []))))))) := by kernel_rfl
theorem verify_isType_t (t : Int) : run E_V1 H_V1 qfi 3000 (start E_V1 qfi [(vi t)]) = (cond (decide (t ≥ (1 : Int))) (rt (vb (decide (t ≤ (7 : Int)))) []) (rt (vb false) [])) := by kernel_rfl
theorem verify_register_t (f : Den qaa) (r : Int) : run E_V1 H_V1 qdw 3000 (start E_V1 qdw [(.tv qaa f), (vi r)]) = (cond (decide (r ≥ (0 : Int))) (rt (vb (decide (r < ((ln I f.2.2.2.1) : Int)))) []) (rt (vb false) [])) := by kernel_rfl
theorem opcode_isInt_t (t : Int) : run E_V1 H_V1 qgo 3000 (start E_V1 qgo [(vi t)]) = (cond (decide (t ≥ (1 : Int))) (rt (vb (decide (t ≤ (4 : Int)))) []) (rt (vb false) [])) := by kernel_rfl
theorem opcode_isWide_t (t : Int) : run E_V1 H_V1 qfn 3000 (start E_V1 qfn [(vi t)]) = (cond (decide (t ≥ (2 : Int))) (rt (vb (decide (t ≤ (4 : Int)))) []) (rt (vb false) [])) := by kernel_rfl
theorem opcode_isVector_t (t : Int) : run E_V1 H_V1 qdx 3000 (start E_V1 qdx [(vi t)]) = (cond (t == (6 : Int)) (rt (vb true) []) (rt (vb (t == (7 : Int))) [])) := by kernel_rfl
theorem opcode_isValue_t (t : Int) : run E_V1 H_V1 qek 3000 (start E_V1 qek [(vi t)]) = (cond (decide (t ≥ (1 : Int))) (rt (vb (decide (t ≤ (7 : Int)))) []) (rt (vb false) [])) := by kernel_rfl
theorem opcode_rows_t : run E_V1 H_V1 f_opcode_rows 3000 (start E_V1 f_opcode_rows []) = (rt (.tv (.sl 24 qao) ([(⟨#[99, 111, 110, 115, 116]⟩, (0 : Int), ()), (⟨#[112, 111, 105, 115, 111, 110]⟩, (0 : Int), ()), (⟨#[102, 114, 101, 101, 122, 101]⟩, (1 : Int), ()), (⟨#[99, 111, 112, 121]⟩, (1 : Int), ()), (⟨#[97, 100, 100]⟩, (2 : Int), ()), (⟨#[115, 117, 98]⟩, (2 : Int), ()), (⟨#[109, 117, 108]⟩, (2 : Int), ()), (⟨#[97, 110, 100]⟩, (2 : Int), ()), (⟨#[111, 114]⟩, (2 : Int), ()), (⟨#[120, 111, 114]⟩, (2 : Int), ()), (⟨#[115, 104, 108]⟩, (2 : Int), ()), (⟨#[108, 115, 104, 114]⟩, (2 : Int), ()), (⟨#[97, 115, 104, 114]⟩, (2 : Int), ()), (⟨#[115, 100, 105, 118]⟩, (2 : Int), ()), (⟨#[115, 114, 101, 109]⟩, (2 : Int), ()), (⟨#[101, 113]⟩, (2 : Int), ()), (⟨#[110, 101]⟩, (2 : Int), ()), (⟨#[115, 108, 116]⟩, (2 : Int), ()), (⟨#[115, 108, 101]⟩, (2 : Int), ()), (⟨#[117, 108, 116]⟩, (2 : Int), ()), (⟨#[115, 101, 108, 101, 99, 116]⟩, (3 : Int), ()), (⟨#[115, 101, 120, 116]⟩, (1 : Int), ()), (⟨#[122, 101, 120, 116]⟩, (1 : Int), ()), (⟨#[116, 114, 117, 110, 99]⟩, (1 : Int), ()), (⟨#[103, 108, 111, 98, 97, 108]⟩, (0 : Int), ()), (⟨#[97, 108, 108, 111, 99, 97]⟩, (0 : Int), ()), (⟨#[111, 102, 102, 115, 101, 116]⟩, (2 : Int), ()), (⟨#[108, 111, 97, 100]⟩, (1 : Int), ()), (⟨#[115, 116, 111, 114, 101]⟩, (2 : Int), ()), (⟨#[99, 97, 108, 108]⟩, (-1 : Int), ()), (⟨#[111, 117, 116, 112, 117, 116]⟩, (1 : Int), ()), (⟨#[112, 97, 99, 107]⟩, (-1 : Int), ()), (⟨#[108, 97, 110, 101]⟩, (1 : Int), ())] : List (Den qao))) []) := by kernel_rfl
theorem opcode_symbol_t (in_ : Den qad) (m : Den qah) : run E_V1 H_V1 qfl 3000 (start E_V1 qfl [(.tv qad in_), (.tv qah m)]) = (cond ((z in_.1) == (25 : Int)) (cond (decide ((z in_.2.2.2.2.2.1) < (0 : Int))) (rt (vi (8 : Int)) []) (cond (decide ((z in_.2.2.2.2.2.1) ≥ ((ln qaf m.1) : Int))) (rt (vi (8 : Int)) []) (cond ((z in_.1) == (30 : Int)) (cond (decide ((z in_.2.2.2.2.2.1) < (0 : Int))) (rt (vi (8 : Int)) []) (cond (decide ((z in_.2.2.2.2.2.1) ≥ ((ln qaa m.2.1) : Int))) (rt (vi (8 : Int)) []) (rt (vi (0 : Int)) []))) (rt (vi (0 : Int)) [])))) (cond ((z in_.1) == (30 : Int)) (cond (decide ((z in_.2.2.2.2.2.1) < (0 : Int))) (rt (vi (8 : Int)) []) (cond (decide ((z in_.2.2.2.2.2.1) ≥ ((ln qaa m.2.1) : Int))) (rt (vi (8 : Int)) []) (rt (vi (0 : Int)) []))) (rt (vi (0 : Int)) []))) := by kernel_rfl
theorem opcode_fields_t (in_ : Den qad) : run E_V1 H_V1 qfp 3000 (start E_V1 qfp [(.tv qad in_)]) = (cond ((z in_.1) == (5 : Int)) (cond (bOf in_.2.2.2.2.2.2.2.1) (cond ((z in_.2.2.2.2.1) != (0 : Int)) (rt (vi (3 : Int)) []) (cond ((z in_.2.2.2.2.2.1) != (0 : Int)) (rt (vi (3 : Int)) []) (cond ((z in_.2.2.2.2.2.2.1) != (0 : Int)) (rt (vi (3 : Int)) []) (rt (vi (0 : Int)) [])))) (cond ((z in_.2.2.2.2.1) != (0 : Int)) (rt (vi (3 : Int)) []) (cond ((z in_.2.2.2.2.2.1) != (0 : Int)) (rt (vi (3 : Int)) []) (cond ((z in_.2.2.2.2.2.2.1) != (0 : Int)) (rt (vi (3 : Int)) []) (rt (vi (0 : Int)) []))))) (cond ((z in_.1) == (6 : Int)) (cond (bOf in_.2.2.2.2.2.2.2.1) (cond ((z in_.2.2.2.2.1) != (0 : Int)) (rt (vi (3 : Int)) []) (cond ((z in_.2.2.2.2.2.1) != (0 : Int)) (rt (vi (3 : Int)) []) (cond ((z in_.2.2.2.2.2.2.1) != (0 : Int)) (rt (vi (3 : Int)) []) (rt (vi (0 : Int)) [])))) (cond ((z in_.2.2.2.2.1) != (0 : Int)) (rt (vi (3 : Int)) []) (cond ((z in_.2.2.2.2.2.1) != (0 : Int)) (rt (vi (3 : Int)) []) (cond ((z in_.2.2.2.2.2.2.1) != (0 : Int)) (rt (vi (3 : Int)) []) (rt (vi (0 : Int)) []))))) (cond ((z in_.1) == (7 : Int)) (cond (bOf in_.2.2.2.2.2.2.2.1) (cond ((z in_.2.2.2.2.1) != (0 : Int)) (rt (vi (3 : Int)) []) (cond ((z in_.2.2.2.2.2.1) != (0 : Int)) (rt (vi (3 : Int)) []) (cond ((z in_.2.2.2.2.2.2.1) != (0 : Int)) (rt (vi (3 : Int)) []) (rt (vi (0 : Int)) [])))) (cond ((z in_.2.2.2.2.1) != (0 : Int)) (rt (vi (3 : Int)) []) (cond ((z in_.2.2.2.2.2.1) != (0 : Int)) (rt (vi (3 : Int)) []) (cond ((z in_.2.2.2.2.2.2.1) != (0 : Int)) (rt (vi (3 : Int)) []) (rt (vi (0 : Int)) []))))) (cond ((z in_.1) == (26 : Int)) (cond (bOf in_.2.2.2.2.2.2.2.1) (rt (vi (3 : Int)) []) (cond ((z in_.2.2.2.2.1) != (0 : Int)) (cond ((z in_.2.2.2.2.2.1) != (0 : Int)) (rt (vi (3 : Int)) []) (cond ((z in_.2.2.2.2.2.2.1) != (0 : Int)) (rt (vi (0 : Int)) []) (rt (vi (0 : Int)) []))) (cond ((z in_.2.2.2.2.2.1) != (0 : Int)) (rt (vi (3 : Int)) []) (cond ((z in_.2.2.2.2.2.2.1) != (0 : Int)) (rt (vi (0 : Int)) []) (rt (vi (0 : Int)) []))))) (cond ((z in_.1) == (1 : Int)) (cond (bOf in_.2.2.2.2.2.2.2.1) (rt (vi (3 : Int)) []) (cond ((z in_.2.2.2.2.1) != (0 : Int)) (cond ((z in_.2.2.2.2.2.1) != (0 : Int)) (rt (vi (3 : Int)) []) (cond ((z in_.2.2.2.2.2.2.1) != (0 : Int)) (rt (vi (3 : Int)) []) (rt (vi (0 : Int)) []))) (cond ((z in_.2.2.2.2.2.1) != (0 : Int)) (rt (vi (3 : Int)) []) (cond ((z in_.2.2.2.2.2.2.1) != (0 : Int)) (rt (vi (3 : Int)) []) (rt (vi (0 : Int)) []))))) (cond ((z in_.1) == (33 : Int)) (cond (bOf in_.2.2.2.2.2.2.2.1) (rt (vi (3 : Int)) []) (cond ((z in_.2.2.2.2.1) != (0 : Int)) (cond ((z in_.2.2.2.2.2.1) != (0 : Int)) (rt (vi (3 : Int)) []) (cond ((z in_.2.2.2.2.2.2.1) != (0 : Int)) (rt (vi (3 : Int)) []) (rt (vi (0 : Int)) []))) (cond ((z in_.2.2.2.2.2.1) != (0 : Int)) (rt (vi (3 : Int)) []) (cond ((z in_.2.2.2.2.2.2.1) != (0 : Int)) (rt (vi (3 : Int)) []) (rt (vi (0 : Int)) []))))) (cond ((z in_.1) == (25 : Int)) (cond (bOf in_.2.2.2.2.2.2.2.1) (rt (vi (3 : Int)) []) (cond ((z in_.2.2.2.2.1) != (0 : Int)) (rt (vi (3 : Int)) []) (cond ((z in_.2.2.2.2.2.1) != (0 : Int)) (cond ((z in_.2.2.2.2.2.2.1) != (0 : Int)) (rt (vi (3 : Int)) []) (rt (vi (0 : Int)) [])) (cond ((z in_.2.2.2.2.2.2.1) != (0 : Int)) (rt (vi (3 : Int)) []) (rt (vi (0 : Int)) []))))) (cond ((z in_.1) == (30 : Int)) (cond (bOf in_.2.2.2.2.2.2.2.1) (rt (vi (3 : Int)) []) (cond ((z in_.2.2.2.2.1) != (0 : Int)) (rt (vi (3 : Int)) []) (cond ((z in_.2.2.2.2.2.1) != (0 : Int)) (cond ((z in_.2.2.2.2.2.2.1) != (0 : Int)) (rt (vi (3 : Int)) []) (rt (vi (0 : Int)) [])) (cond ((z in_.2.2.2.2.2.2.1) != (0 : Int)) (rt (vi (3 : Int)) []) (rt (vi (0 : Int)) []))))) (cond (bOf in_.2.2.2.2.2.2.2.1) (rt (vi (3 : Int)) []) (cond ((z in_.2.2.2.2.1) != (0 : Int)) (rt (vi (3 : Int)) []) (cond ((z in_.2.2.2.2.2.1) != (0 : Int)) (rt (vi (3 : Int)) []) (cond ((z in_.2.2.2.2.2.2.1) != (0 : Int)) (rt (vi (3 : Int)) []) (rt (vi (0 : Int)) []))))))))))))) := by kernel_rfl
abbrev Fn := Den qaa
abbrev Blk := Den qac
abbrev Md := Den qah
abbrev Glob := Den qaf
abbrev Ins := Den qad
abbrev Trm := Den qai
abbrev Edg := Den qae
abbrev Dg := Den qat
abbrev Plc := Den qak
def errB (d : Dg) : Bool := !(z d.1 == 0)
def letterF (c : Int) : Bool := (cond (decide (c ≥ (65 : Int))) (cond (decide (c ≤ (90 : Int))) true (cond (decide (c ≥ (97 : Int))) (cond (decide (c ≤ (122 : Int))) true (c == (95 : Int))) (c == (95 : Int)))) (cond (decide (c ≥ (97 : Int))) (cond (decide (c ≤ (122 : Int))) true (c == (95 : Int))) (c == (95 : Int))))

def k_lexer_letter : Con := con [.d (.int .u8)] .bool (fun x => True) fun x => letterF x.1
theorem m_lexer_letter (c : Int) (h_c : okD (.int .u8) c) (hp : True) : Runs E_V1 (start E_V1 qgr [(aint .u8 c)]) (fun r_ h_ => r_ = (vb (letterF c)) ∧ h_ = []) := .tree E_V1_ok (lexer_letter_t c) (by
 show Tre.wp (Qv _ (fun x_ => (vb x_)) (letterF c)) _
 unfold letterF
 refine qag (fun h1 => ?_) (fun h1 => ?_)
 ·refine qag (fun h2 => ⟨rfl, rfl⟩) (fun h2 => ?_)
  refine qag (fun h3 => ?_) (fun h3 => ⟨rfl, rfl⟩)
  refine qag (fun h4 => ⟨rfl, rfl⟩) (fun h4 => ?_)
  exact ⟨rfl, rfl⟩
 ·refine qag (fun h5 => ?_) (fun h5 => ⟨rfl, rfl⟩)
  refine qag (fun h6 => ⟨rfl, rfl⟩) (fun h6 => ?_)
  exact ⟨rfl, rfl⟩)
theorem c_lexer_letter : qal E_V1 qgr k_lexer_letter.spec := qan fun x hx hp => ⟨rfl, m_lexer_letter x.1 hx.1 hp⟩
def digitF (c : Int) : Bool := (cond (decide (c ≥ (48 : Int))) (decide (c ≤ (57 : Int))) false)

def k_lexer_digit : Con := con [.d (.int .u8)] .bool (fun x => True) fun x => digitF x.1
theorem m_lexer_digit (c : Int) (h_c : okD (.int .u8) c) (hp : True) : Runs E_V1 (start E_V1 f_lexer_digit [(aint .u8 c)]) (fun r_ h_ => r_ = (vb (digitF c)) ∧ h_ = []) := .tree E_V1_ok (lexer_digit_t c) (by
 show Tre.wp (Qv _ (fun x_ => (vb x_)) (digitF c)) _
 unfold digitF
 refine qag (fun h1 => ⟨rfl, rfl⟩) (fun h1 => ?_)
 exact ⟨rfl, rfl⟩)
theorem c_lexer_digit : qal E_V1 f_lexer_digit k_lexer_digit.spec := qan fun x hx hp => ⟨rfl, m_lexer_digit x.1 hx.1 hp⟩
def accP (t : Int) : Den I × Den I := (cond (t == (2 : Int)) (t, (1 : Int)) (cond (t == (3 : Int)) (t, (1 : Int)) (cond (t == (4 : Int)) (t, (1 : Int)) (cond (t == (5 : Int)) (t, (1 : Int)) (cond (t == (6 : Int)) ((3 : Int), (2 : Int)) (cond (t == (7 : Int)) ((3 : Int), (4 : Int)) ((0 : Int), (0 : Int))))))))

def k_opcode_Access : Con := conT2 [.d I] I I (fun x => True) fun x => accP x.1
theorem m_opcode_Access (t : Int) (h_t : okD I t) (hp : True) : Runs E_V1 (start E_V1 qfq [(vi t)]) (fun r_ h_ => r_ = (.tup [(vi (z ((accP t).1))), (vi (z ((accP t).2)))]) ∧ h_ = []) := .tree E_V1_ok (opcode_Access_t t) (by
 show Tre.wp (Qv _ (fun x_ => (.tup [(vi (z x_.1)), (vi (z x_.2))])) (accP t)) _
 unfold accP
 refine qag (fun h1 => ⟨rfl, rfl⟩) (fun h1 => ?_)
 refine qag (fun h2 => ⟨rfl, rfl⟩) (fun h2 => ?_)
 refine qag (fun h3 => ⟨rfl, rfl⟩) (fun h3 => ?_)
 refine qag (fun h4 => ⟨rfl, rfl⟩) (fun h4 => ?_)
 refine qag (fun h5 => ⟨rfl, rfl⟩) (fun h5 => ?_)
 refine qag (fun h6 => ⟨rfl, rfl⟩) (fun h6 => ?_)
 exact ⟨rfl, rfl⟩)
theorem c_opcode_Access : qal E_V1 qfq k_opcode_Access.spec := qan fun x hx hp => ⟨rfl, m_opcode_Access x.1 hx.1 hp⟩
def typP (t : Int) : Bool := (cond (decide (t ≥ (1 : Int))) (decide (t ≤ (7 : Int))) false)

def k_verify_isType : Con := con [.d I] .bool (fun x => True) fun x => typP x.1
theorem m_verify_isType (t : Int) (h_t : okD I t) (hp : True) : Runs E_V1 (start E_V1 qfi [(vi t)]) (fun r_ h_ => r_ = (vb (typP t)) ∧ h_ = []) := .tree E_V1_ok (verify_isType_t t) (by
 show Tre.wp (Qv _ (fun x_ => (vb x_)) (typP t)) _
 unfold typP
 refine qag (fun h1 => ⟨rfl, rfl⟩) (fun h1 => ?_)
 exact ⟨rfl, rfl⟩)
theorem c_verify_isType : qal E_V1 qfi k_verify_isType.spec := qan fun x hx hp => ⟨rfl, m_verify_isType x.1 hx.1 hp⟩
def regP (f : Den qaa) (r : Int) : Bool := (cond (decide (r ≥ (0 : Int))) (decide (r < ((ln I f.2.2.2.1) : Int))) false)

def k_verify_register : Con := con [.d qaa, .d I] .bool (fun x => True) fun x => regP x.1 x.2.1
theorem m_verify_register (f : Den qaa) (r : Int) (h_f : okD qaa f) (h_r : okD I r) (hp : True) : Runs E_V1 (start E_V1 qdw [(.tv qaa f), (vi r)]) (fun r_ h_ => r_ = (vb (regP f r)) ∧ h_ = []) := .tree E_V1_ok (verify_register_t f r) (by
 show Tre.wp (Qv _ (fun x_ => (vb x_)) (regP f r)) _
 unfold regP
 refine qag (fun h1 => ⟨rfl, rfl⟩) (fun h1 => ?_)
 exact ⟨rfl, rfl⟩)
theorem c_verify_register : qal E_V1 qdw k_verify_register.spec := qan fun x hx hp => ⟨rfl, m_verify_register x.1 x.2.1 hx.1 hx.2.1 hp⟩
def intP (t : Int) : Bool := (cond (decide (t ≥ (1 : Int))) (decide (t ≤ (4 : Int))) false)

def k_opcode_isInt : Con := con [.d I] .bool (fun x => True) fun x => intP x.1
theorem m_opcode_isInt (t : Int) (h_t : okD I t) (hp : True) : Runs E_V1 (start E_V1 qgo [(vi t)]) (fun r_ h_ => r_ = (vb (intP t)) ∧ h_ = []) := .tree E_V1_ok (opcode_isInt_t t) (by
 show Tre.wp (Qv _ (fun x_ => (vb x_)) (intP t)) _
 unfold intP
 refine qag (fun h1 => ⟨rfl, rfl⟩) (fun h1 => ?_)
 exact ⟨rfl, rfl⟩)
theorem c_opcode_isInt : qal E_V1 qgo k_opcode_isInt.spec := qan fun x hx hp => ⟨rfl, m_opcode_isInt x.1 hx.1 hp⟩
def wideP (t : Int) : Bool := (cond (decide (t ≥ (2 : Int))) (decide (t ≤ (4 : Int))) false)

def k_opcode_isWide : Con := con [.d I] .bool (fun x => True) fun x => wideP x.1
theorem m_opcode_isWide (t : Int) (h_t : okD I t) (hp : True) : Runs E_V1 (start E_V1 qfn [(vi t)]) (fun r_ h_ => r_ = (vb (wideP t)) ∧ h_ = []) := .tree E_V1_ok (opcode_isWide_t t) (by
 show Tre.wp (Qv _ (fun x_ => (vb x_)) (wideP t)) _
 unfold wideP
 refine qag (fun h1 => ⟨rfl, rfl⟩) (fun h1 => ?_)
 exact ⟨rfl, rfl⟩)
theorem c_opcode_isWide : qal E_V1 qfn k_opcode_isWide.spec := qan fun x hx hp => ⟨rfl, m_opcode_isWide x.1 hx.1 hp⟩
def vecP (t : Int) : Bool := (cond (t == (6 : Int)) true (t == (7 : Int)))

def k_opcode_isVector : Con := con [.d I] .bool (fun x => True) fun x => vecP x.1
theorem m_opcode_isVector (t : Int) (h_t : okD I t) (hp : True) : Runs E_V1 (start E_V1 qdx [(vi t)]) (fun r_ h_ => r_ = (vb (vecP t)) ∧ h_ = []) := .tree E_V1_ok (opcode_isVector_t t) (by
 show Tre.wp (Qv _ (fun x_ => (vb x_)) (vecP t)) _
 unfold vecP
 refine qag (fun h1 => ⟨rfl, rfl⟩) (fun h1 => ?_)
 exact ⟨rfl, rfl⟩)
theorem c_opcode_isVector : qal E_V1 qdx k_opcode_isVector.spec := qan fun x hx hp => ⟨rfl, m_opcode_isVector x.1 hx.1 hp⟩

def k_opcode_isValue : Con := con [.d I] .bool (fun x => True) fun x => typP x.1
theorem m_opcode_isValue (t : Int) (h_t : okD I t) (hp : True) : Runs E_V1 (start E_V1 qek [(vi t)]) (fun r_ h_ => r_ = (vb (typP t)) ∧ h_ = []) := .tree E_V1_ok (opcode_isValue_t t) (by
 refine wp_cond (fun h1 => ?_) (fun h1 => ?_)
 ·have h1_ := of_decide_eq_true h1
  exact ⟨by first | rw [show typP t = _ from (Bool.cond_pos h1)] | simp only [typP, h1, cond_true, cond_false], rfl⟩
 ·have h1_ := of_decide_eq_false h1
  exact ⟨by first | rw [show typP t = _ from (Bool.cond_neg h1)] | simp only [typP, h1, cond_true, cond_false], rfl⟩)
theorem c_opcode_isValue : qal E_V1 qek k_opcode_isValue.spec := qan fun x hx hp => ⟨rfl, m_opcode_isValue x.1 hx.1 hp⟩
def rowsP : Den (.sl 24 qao) := ([(⟨#[99, 111, 110, 115, 116]⟩, (0 : Int), ()), (⟨#[112, 111, 105, 115, 111, 110]⟩, (0 : Int), ()), (⟨#[102, 114, 101, 101, 122, 101]⟩, (1 : Int), ()), (⟨#[99, 111, 112, 121]⟩, (1 : Int), ()), (⟨#[97, 100, 100]⟩, (2 : Int), ()), (⟨#[115, 117, 98]⟩, (2 : Int), ()), (⟨#[109, 117, 108]⟩, (2 : Int), ()), (⟨#[97, 110, 100]⟩, (2 : Int), ()), (⟨#[111, 114]⟩, (2 : Int), ()), (⟨#[120, 111, 114]⟩, (2 : Int), ()), (⟨#[115, 104, 108]⟩, (2 : Int), ()), (⟨#[108, 115, 104, 114]⟩, (2 : Int), ()), (⟨#[97, 115, 104, 114]⟩, (2 : Int), ()), (⟨#[115, 100, 105, 118]⟩, (2 : Int), ()), (⟨#[115, 114, 101, 109]⟩, (2 : Int), ()), (⟨#[101, 113]⟩, (2 : Int), ()), (⟨#[110, 101]⟩, (2 : Int), ()), (⟨#[115, 108, 116]⟩, (2 : Int), ()), (⟨#[115, 108, 101]⟩, (2 : Int), ()), (⟨#[117, 108, 116]⟩, (2 : Int), ()), (⟨#[115, 101, 108, 101, 99, 116]⟩, (3 : Int), ()), (⟨#[115, 101, 120, 116]⟩, (1 : Int), ()), (⟨#[122, 101, 120, 116]⟩, (1 : Int), ()), (⟨#[116, 114, 117, 110, 99]⟩, (1 : Int), ()), (⟨#[103, 108, 111, 98, 97, 108]⟩, (0 : Int), ()), (⟨#[97, 108, 108, 111, 99, 97]⟩, (0 : Int), ()), (⟨#[111, 102, 102, 115, 101, 116]⟩, (2 : Int), ()), (⟨#[108, 111, 97, 100]⟩, (1 : Int), ()), (⟨#[115, 116, 111, 114, 101]⟩, (2 : Int), ()), (⟨#[99, 97, 108, 108]⟩, (-1 : Int), ()), (⟨#[111, 117, 116, 112, 117, 116]⟩, (1 : Int), ()), (⟨#[112, 97, 99, 107]⟩, (-1 : Int), ()), (⟨#[108, 97, 110, 101]⟩, (1 : Int), ())] : List (Den qao))

def k_opcode_rows : Con := con [] (.sl 24 qao) (fun x => True) fun x => rowsP
theorem m_opcode_rows (hp : True) : Runs E_V1 (start E_V1 f_opcode_rows []) (fun r_ h_ => r_ = (.tv (.sl 24 qao) (rowsP)) ∧ h_ = []) := .tree E_V1_ok (opcode_rows_t) (by
 show Tre.wp (Qv _ (fun x_ => (.tv (.sl 24 qao) x_)) (rowsP)) _
 unfold rowsP
 exact ⟨rfl, rfl⟩)
theorem c_opcode_rows : qal E_V1 f_opcode_rows k_opcode_rows.spec := qan fun x hx hp => ⟨rfl, m_opcode_rows hp⟩
def symP (in_ : Den qad) (m : Den qah) : Int := (cond ((z in_.1) == (25 : Int)) (cond (decide ((z in_.2.2.2.2.2.1) < (0 : Int))) (8 : Int) (cond (decide ((z in_.2.2.2.2.2.1) ≥ ((ln qaf m.1) : Int))) (8 : Int) (cond ((z in_.1) == (30 : Int)) (cond (decide ((z in_.2.2.2.2.2.1) < (0 : Int))) (8 : Int) (cond (decide ((z in_.2.2.2.2.2.1) ≥ ((ln qaa m.2.1) : Int))) (8 : Int) (0 : Int))) (0 : Int)))) (cond ((z in_.1) == (30 : Int)) (cond (decide ((z in_.2.2.2.2.2.1) < (0 : Int))) (8 : Int) (cond (decide ((z in_.2.2.2.2.2.1) ≥ ((ln qaa m.2.1) : Int))) (8 : Int) (0 : Int))) (0 : Int)))

def k_opcode_symbol : Con := con [.d qad, .d qah] I (fun x => True) fun x => symP x.1 x.2.1
theorem m_opcode_symbol (in_ : Den qad) (m : Den qah) (h_in_ : okD qad in_) (h_m : okD qah m) (hp : True) : Runs E_V1 (start E_V1 qfl [(.tv qad in_), (.tv qah m)]) (fun r_ h_ => r_ = (vi (symP in_ m)) ∧ h_ = []) := .tree E_V1_ok (opcode_symbol_t in_ m) (by
 show Tre.wp (Qv _ (fun x_ => (vi x_)) (symP in_ m)) _
 unfold symP
 refine qag (fun h1 => ?_) (fun h1 => ?_)
 ·refine qag (fun h2 => ⟨rfl, rfl⟩) (fun h2 => ?_)
  refine qag (fun h3 => ⟨rfl, rfl⟩) (fun h3 => ?_)
  have h4k : ((z in_.1) == (30 : Int)) = false := by rw [(beq_t h1)]; rfl
  refine qag (fun h4 => absurd (h4k.symm.trans h4) (by decide)) (fun _ => ?_)
  exact ⟨rfl, rfl⟩
 ·refine qag (fun h5 => ?_) (fun h5 => ⟨rfl, rfl⟩)
  refine qag (fun h6 => ⟨rfl, rfl⟩) (fun h6 => ?_)
  refine qag (fun h7 => ⟨rfl, rfl⟩) (fun h7 => ?_)
  exact ⟨rfl, rfl⟩)
theorem c_opcode_symbol : qal E_V1 qfl k_opcode_symbol.spec := qan fun x hx hp => ⟨rfl, m_opcode_symbol x.1 x.2.1 hx.1 hx.2.1 hp⟩
def fldP (in_ : Den qad) : Int := (cond ((z in_.1) == (5 : Int)) (cond (bOf in_.2.2.2.2.2.2.2.1) (cond ((z in_.2.2.2.2.1) != (0 : Int)) (3 : Int) (cond ((z in_.2.2.2.2.2.1) != (0 : Int)) (3 : Int) (cond ((z in_.2.2.2.2.2.2.1) != (0 : Int)) (3 : Int) (0 : Int)))) (cond ((z in_.2.2.2.2.1) != (0 : Int)) (3 : Int) (cond ((z in_.2.2.2.2.2.1) != (0 : Int)) (3 : Int) (cond ((z in_.2.2.2.2.2.2.1) != (0 : Int)) (3 : Int) (0 : Int))))) (cond ((z in_.1) == (6 : Int)) (cond (bOf in_.2.2.2.2.2.2.2.1) (cond ((z in_.2.2.2.2.1) != (0 : Int)) (3 : Int) (cond ((z in_.2.2.2.2.2.1) != (0 : Int)) (3 : Int) (cond ((z in_.2.2.2.2.2.2.1) != (0 : Int)) (3 : Int) (0 : Int)))) (cond ((z in_.2.2.2.2.1) != (0 : Int)) (3 : Int) (cond ((z in_.2.2.2.2.2.1) != (0 : Int)) (3 : Int) (cond ((z in_.2.2.2.2.2.2.1) != (0 : Int)) (3 : Int) (0 : Int))))) (cond ((z in_.1) == (7 : Int)) (cond (bOf in_.2.2.2.2.2.2.2.1) (cond ((z in_.2.2.2.2.1) != (0 : Int)) (3 : Int) (cond ((z in_.2.2.2.2.2.1) != (0 : Int)) (3 : Int) (cond ((z in_.2.2.2.2.2.2.1) != (0 : Int)) (3 : Int) (0 : Int)))) (cond ((z in_.2.2.2.2.1) != (0 : Int)) (3 : Int) (cond ((z in_.2.2.2.2.2.1) != (0 : Int)) (3 : Int) (cond ((z in_.2.2.2.2.2.2.1) != (0 : Int)) (3 : Int) (0 : Int))))) (cond ((z in_.1) == (26 : Int)) (cond (bOf in_.2.2.2.2.2.2.2.1) (3 : Int) (cond ((z in_.2.2.2.2.1) != (0 : Int)) (cond ((z in_.2.2.2.2.2.1) != (0 : Int)) (3 : Int) (cond ((z in_.2.2.2.2.2.2.1) != (0 : Int)) (0 : Int) (0 : Int))) (cond ((z in_.2.2.2.2.2.1) != (0 : Int)) (3 : Int) (cond ((z in_.2.2.2.2.2.2.1) != (0 : Int)) (0 : Int) (0 : Int))))) (cond ((z in_.1) == (1 : Int)) (cond (bOf in_.2.2.2.2.2.2.2.1) (3 : Int) (cond ((z in_.2.2.2.2.1) != (0 : Int)) (cond ((z in_.2.2.2.2.2.1) != (0 : Int)) (3 : Int) (cond ((z in_.2.2.2.2.2.2.1) != (0 : Int)) (3 : Int) (0 : Int))) (cond ((z in_.2.2.2.2.2.1) != (0 : Int)) (3 : Int) (cond ((z in_.2.2.2.2.2.2.1) != (0 : Int)) (3 : Int) (0 : Int))))) (cond ((z in_.1) == (33 : Int)) (cond (bOf in_.2.2.2.2.2.2.2.1) (3 : Int) (cond ((z in_.2.2.2.2.1) != (0 : Int)) (cond ((z in_.2.2.2.2.2.1) != (0 : Int)) (3 : Int) (cond ((z in_.2.2.2.2.2.2.1) != (0 : Int)) (3 : Int) (0 : Int))) (cond ((z in_.2.2.2.2.2.1) != (0 : Int)) (3 : Int) (cond ((z in_.2.2.2.2.2.2.1) != (0 : Int)) (3 : Int) (0 : Int))))) (cond ((z in_.1) == (25 : Int)) (cond (bOf in_.2.2.2.2.2.2.2.1) (3 : Int) (cond ((z in_.2.2.2.2.1) != (0 : Int)) (3 : Int) (cond ((z in_.2.2.2.2.2.1) != (0 : Int)) (cond ((z in_.2.2.2.2.2.2.1) != (0 : Int)) (3 : Int) (0 : Int)) (cond ((z in_.2.2.2.2.2.2.1) != (0 : Int)) (3 : Int) (0 : Int))))) (cond ((z in_.1) == (30 : Int)) (cond (bOf in_.2.2.2.2.2.2.2.1) (3 : Int) (cond ((z in_.2.2.2.2.1) != (0 : Int)) (3 : Int) (cond ((z in_.2.2.2.2.2.1) != (0 : Int)) (cond ((z in_.2.2.2.2.2.2.1) != (0 : Int)) (3 : Int) (0 : Int)) (cond ((z in_.2.2.2.2.2.2.1) != (0 : Int)) (3 : Int) (0 : Int))))) (cond (bOf in_.2.2.2.2.2.2.2.1) (3 : Int) (cond ((z in_.2.2.2.2.1) != (0 : Int)) (3 : Int) (cond ((z in_.2.2.2.2.2.1) != (0 : Int)) (3 : Int) (cond ((z in_.2.2.2.2.2.2.1) != (0 : Int)) (3 : Int) (0 : Int)))))))))))))

def k_opcode_fields : Con := con [.d qad] I (fun x => True) fun x => fldP x.1
theorem m_opcode_fields (in_ : Den qad) (h_in_ : okD qad in_) (hp : True) : Runs E_V1 (start E_V1 qfp [(.tv qad in_)]) (fun r_ h_ => r_ = (vi (fldP in_)) ∧ h_ = []) := .tree E_V1_ok (opcode_fields_t in_) (by
 show Tre.wp (Qv _ (fun x_ => (vi x_)) (fldP in_)) _
 unfold fldP
 refine qag (fun h1 => ?_) (fun h1 => ?_)
 ·refine qag (fun h2 => ?_) (fun h2 => ?_)
  ·refine qag (fun h3 => ⟨rfl, rfl⟩) (fun h3 => ?_)
   refine qag (fun h4 => ⟨rfl, rfl⟩) (fun h4 => ?_)
   refine qag (fun h5 => ⟨rfl, rfl⟩) (fun h5 => ?_)
   exact ⟨rfl, rfl⟩
  ·refine qag (fun h6 => ⟨rfl, rfl⟩) (fun h6 => ?_)
   refine qag (fun h7 => ⟨rfl, rfl⟩) (fun h7 => ?_)
   refine qag (fun h8 => ⟨rfl, rfl⟩) (fun h8 => ?_)
   exact ⟨rfl, rfl⟩
 ·refine qag (fun h9 => ?_) (fun h9 => ?_)
  ·refine qag (fun h10 => ?_) (fun h10 => ?_)
   ·refine qag (fun h11 => ⟨rfl, rfl⟩) (fun h11 => ?_)
    refine qag (fun h12 => ⟨rfl, rfl⟩) (fun h12 => ?_)
    refine qag (fun h13 => ⟨rfl, rfl⟩) (fun h13 => ?_)
    exact ⟨rfl, rfl⟩
   ·refine qag (fun h14 => ⟨rfl, rfl⟩) (fun h14 => ?_)
    refine qag (fun h15 => ⟨rfl, rfl⟩) (fun h15 => ?_)
    refine qag (fun h16 => ⟨rfl, rfl⟩) (fun h16 => ?_)
    exact ⟨rfl, rfl⟩
  ·refine qag (fun h17 => ?_) (fun h17 => ?_)
   ·refine qag (fun h18 => ?_) (fun h18 => ?_)
    ·refine qag (fun h19 => ⟨rfl, rfl⟩) (fun h19 => ?_)
     refine qag (fun h20 => ⟨rfl, rfl⟩) (fun h20 => ?_)
     refine qag (fun h21 => ⟨rfl, rfl⟩) (fun h21 => ?_)
     exact ⟨rfl, rfl⟩
    ·refine qag (fun h22 => ⟨rfl, rfl⟩) (fun h22 => ?_)
     refine qag (fun h23 => ⟨rfl, rfl⟩) (fun h23 => ?_)
     refine qag (fun h24 => ⟨rfl, rfl⟩) (fun h24 => ?_)
     exact ⟨rfl, rfl⟩
   ·refine qag (fun h25 => ?_) (fun h25 => ?_)
    ·refine qag (fun h26 => ⟨rfl, rfl⟩) (fun h26 => ?_)
     refine qag (fun h27 => ?_) (fun h27 => ?_)
     ·refine qag (fun h28 => ⟨rfl, rfl⟩) (fun h28 => ?_)
      refine qag (fun h29 => ⟨rfl, rfl⟩) (fun h29 => ?_)
      exact ⟨rfl, rfl⟩
     ·refine qag (fun h30 => ⟨rfl, rfl⟩) (fun h30 => ?_)
      refine qag (fun h31 => ⟨rfl, rfl⟩) (fun h31 => ?_)
      exact ⟨rfl, rfl⟩
    ·refine qag (fun h32 => ?_) (fun h32 => ?_)
     ·refine qag (fun h33 => ⟨rfl, rfl⟩) (fun h33 => ?_)
      refine qag (fun h34 => ?_) (fun h34 => ?_)
      ·refine qag (fun h35 => ⟨rfl, rfl⟩) (fun h35 => ?_)
       refine qag (fun h36 => ⟨rfl, rfl⟩) (fun h36 => ?_)
       exact ⟨rfl, rfl⟩
      ·refine qag (fun h37 => ⟨rfl, rfl⟩) (fun h37 => ?_)
       refine qag (fun h38 => ⟨rfl, rfl⟩) (fun h38 => ?_)
       exact ⟨rfl, rfl⟩
     ·refine qag (fun h39 => ?_) (fun h39 => ?_)
      ·refine qag (fun h40 => ⟨rfl, rfl⟩) (fun h40 => ?_)
       refine qag (fun h41 => ?_) (fun h41 => ?_)
       ·refine qag (fun h42 => ⟨rfl, rfl⟩) (fun h42 => ?_)
        refine qag (fun h43 => ⟨rfl, rfl⟩) (fun h43 => ?_)
        exact ⟨rfl, rfl⟩
       ·refine qag (fun h44 => ⟨rfl, rfl⟩) (fun h44 => ?_)
        refine qag (fun h45 => ⟨rfl, rfl⟩) (fun h45 => ?_)
        exact ⟨rfl, rfl⟩
      ·refine qag (fun h46 => ?_) (fun h46 => ?_)
       ·refine qag (fun h47 => ⟨rfl, rfl⟩) (fun h47 => ?_)
        refine qag (fun h48 => ⟨rfl, rfl⟩) (fun h48 => ?_)
        refine qag (fun h49 => ?_) (fun h49 => ?_)
        ·refine qag (fun h50 => ⟨rfl, rfl⟩) (fun h50 => ?_)
         exact ⟨rfl, rfl⟩
        ·refine qag (fun h51 => ⟨rfl, rfl⟩) (fun h51 => ?_)
         exact ⟨rfl, rfl⟩
       ·refine qag (fun h52 => ?_) (fun h52 => ?_)
        ·refine qag (fun h53 => ⟨rfl, rfl⟩) (fun h53 => ?_)
         refine qag (fun h54 => ⟨rfl, rfl⟩) (fun h54 => ?_)
         refine qag (fun h55 => ?_) (fun h55 => ?_)
         ·refine qag (fun h56 => ⟨rfl, rfl⟩) (fun h56 => ?_)
          exact ⟨rfl, rfl⟩
         ·refine qag (fun h57 => ⟨rfl, rfl⟩) (fun h57 => ?_)
          exact ⟨rfl, rfl⟩
        ·refine qag (fun h58 => ⟨rfl, rfl⟩) (fun h58 => ?_)
         refine qag (fun h59 => ⟨rfl, rfl⟩) (fun h59 => ?_)
         refine qag (fun h60 => ⟨rfl, rfl⟩) (fun h60 => ?_)
         refine qag (fun h61 => ⟨rfl, rfl⟩) (fun h61 => ?_)
         exact ⟨rfl, rfl⟩)
theorem c_opcode_fields : qal E_V1 qfp k_opcode_fields.spec := qan fun x hx hp => ⟨rfl, m_opcode_fields x.1 hx.1 hp⟩
def L_V1 : List (FuncId × FSpec) := [(qgr, k_lexer_letter.spec), (f_lexer_digit, k_lexer_digit.spec), (qfq, k_opcode_Access.spec), (qfi, k_verify_isType.spec), (qdw, k_verify_register.spec), (qgo, k_opcode_isInt.spec), (qfn, k_opcode_isWide.spec), (qdx, k_opcode_isVector.spec), (qek, k_opcode_isValue.spec), (f_opcode_rows, k_opcode_rows.spec), (qfl, k_opcode_symbol.spec), (qfp, k_opcode_fields.spec)] ++ L_A3
theorem L_V1_ok : ∀ x ∈ L_V1, qal (ctx []) x.1 x.2 := by
 unfold L_V1
 simp only [List.cons_append, List.nil_append, List.forall_mem_cons]
 exact ⟨c_lexer_letter, c_lexer_digit, c_opcode_Access, c_verify_isType, c_verify_register, c_opcode_isInt, c_opcode_isWide, c_opcode_isVector, c_opcode_isValue, c_opcode_rows, c_opcode_symbol, c_opcode_fields, L_A3_ok⟩
end Burn.MM
namespace Burn.MM
open Go Go.BE Go.Proofs
set_option maxRecDepth 100000
set_option linter.unusedVariables false
set_option linter.unusedSimpArgs false
noncomputable abbrev E_V2 : Ctx := ctx L_V1
theorem E_V2_ok : EOK E_V2 := qch L_V1_ok
def cuts_V2 : CutL := []
def rets_V2 : FuncId → List (Option Fx)
 | _ => []
def H_V2 : Hints := { cut := cutOf cuts_V2, ret := rets_V2 }
theorem lexer_word_t (c : Int) : run E_V2 H_V2 f_lexer_word 3000 (start E_V2 f_lexer_word [(aint .u8 c)]) = (.chk (True) (.know True (cond (letterF c) (rt (vb true) []) (.chk (True) (.know True (rt (vb (digitF c)) [])))))) := by kernel_rfl
theorem opcode_Name_t (op : Int) : run E_V2 H_V2 f_opcode_Name 3000 (start E_V2 f_opcode_Name [(vi op)]) = (.chk (True) (.know (okD (.sl 24 qao) (rowsP)) (cond (decide (op < (1 : Int))) (rt (vs ByteArray.empty) []) (cond (decide (op > ((ln qao (rowsP)) : Int))) (rt (vs ByteArray.empty) []) (.chk (0 ≤ (IntKind.wrap .i64 (op - (1 : Int))) ∧ (IntKind.wrap .i64 (op - (1 : Int))) < (ln qao (rowsP))) (rt (vs (tOf ((gd qao (rowsP) (((IntKind.wrap .i64 (op - (1 : Int)))).toNat)).1))) [])))))) := by kernel_rfl
theorem verify_isCell_t (t : Int) : run E_V2 H_V2 qfj 3000 (start E_V2 qfj [(vi t)]) = (.chk (True) (.know (okAVs [(vi (z ((accP t).1))), (vi (z ((accP t).2)))]) (rt (vb ((z ((accP t).2)) == (1 : Int))) []))) := by kernel_rfl
theorem opcode_isCell_t (t : Int) : run E_V2 H_V2 qfo 3000 (start E_V2 qfo [(vi t)]) = (.chk (True) (.know (okAVs [(vi (z ((accP t).1))), (vi (z ((accP t).2)))]) (rt (vb (decide ((z ((accP t).2)) > (0 : Int)))) []))) := by kernel_rfl
def wordF (c : Int) : Bool := (cond (letterF c) true (digitF c))

def k_lexer_word : Con := con [.d (.int .u8)] .bool (fun x => True) fun x => wordF x.1
theorem m_lexer_word (c : Int) (h_c : okD (.int .u8) c) (hp : True) : Runs E_V2 (start E_V2 f_lexer_word [(aint .u8 c)]) (fun r_ h_ => r_ = (vb (wordF c)) ∧ h_ = []) := .tree E_V2_ok (lexer_word_t c) (by
 show Tre.wp (Qv _ (fun x_ => (vb x_)) (wordF c)) _
 unfold wordF
 refine ⟨trivial, fun _ => ?_⟩
 refine fun _ => ?_
 refine qag (fun h1 => ⟨rfl, rfl⟩) (fun h1 => ?_)
 exact ⟨trivial, fun _ => fun _ => ⟨rfl, rfl⟩⟩)
theorem c_lexer_word : qal E_V2 f_lexer_word k_lexer_word.spec := qan fun x hx hp => ⟨rfl, m_lexer_word x.1 hx.1 hp⟩
theorem name_room {op : Int} (h1 : ¬ op < 1) (h2 : ¬ op > ((ln qao rowsP : Nat) : Int)) : 0 ≤ IntKind.wrap .i64 (op - 1) ∧ IntKind.wrap .i64 (op - 1) < (ln qao rowsP : Nat) := by
 have h : ln qao rowsP = 33 := rfl
 rw [h] at h2 ⊢
 rw [wrap64 _ (by omega) (by omega)]
 omega
def nameP (op : Int) : ByteArray := (cond (decide (op < (1 : Int))) ByteArray.empty (cond (decide (op > ((ln qao (rowsP)) : Int))) ByteArray.empty (tOf ((gd qao (rowsP) (((IntKind.wrap .i64 (op - (1 : Int)))).toNat)).1))))

def k_opcode_Name : Con := con [.d I] .str (fun x => True) fun x => nameP x.1
theorem m_opcode_Name (op : Int) (h_op : okD I op) (hp : True) : Runs E_V2 (start E_V2 f_opcode_Name [(vi op)]) (fun r_ h_ => r_ = (vs (nameP op)) ∧ h_ = []) := .tree E_V2_ok (opcode_Name_t op) (by
 show Tre.wp (Qv _ (fun x_ => (vs x_)) (nameP op)) _
 unfold nameP
 refine ⟨trivial, fun _ => ?_⟩
 refine fun _ => ?_
 refine qag (fun h1 => ⟨rfl, rfl⟩) (fun h1 => ?_)
 have h1_ := of_decide_eq_false h1
 refine qag (fun h2 => ⟨rfl, rfl⟩) (fun h2 => ?_)
 have h2_ := of_decide_eq_false h2
 refine ⟨by first | omega | exact (name_room h1_ h2_) | (have g_ := name_room h1_ h2_; omega) | assumption | exact hp.1 | exact hp.2 | exact hp.2.1 | (simp_all; done) | (simp_all; omega), fun _ => ?_⟩
 exact ⟨rfl, rfl⟩)
theorem c_opcode_Name : qal E_V2 f_opcode_Name k_opcode_Name.spec := qan fun x hx hp => ⟨rfl, m_opcode_Name x.1 hx.1 hp⟩
def celP (t : Int) : Bool := ((z ((accP t).2)) == (1 : Int))

def k_verify_isCell : Con := con [.d I] .bool (fun x => True) fun x => celP x.1
theorem m_verify_isCell (t : Int) (h_t : okD I t) (hp : True) : Runs E_V2 (start E_V2 qfj [(vi t)]) (fun r_ h_ => r_ = (vb (celP t)) ∧ h_ = []) := .tree E_V2_ok (verify_isCell_t t) (by
 show Tre.wp (Qv _ (fun x_ => (vb x_)) (celP t)) _
 unfold celP
 exact ⟨trivial, fun _ => fun _ => ⟨rfl, rfl⟩⟩)
theorem c_verify_isCell : qal E_V2 qfj k_verify_isCell.spec := qan fun x hx hp => ⟨rfl, m_verify_isCell x.1 hx.1 hp⟩
def cellP (t : Int) : Bool := (decide ((z ((accP t).2)) > (0 : Int)))

def k_opcode_isCell : Con := con [.d I] .bool (fun x => True) fun x => cellP x.1
theorem m_opcode_isCell (t : Int) (h_t : okD I t) (hp : True) : Runs E_V2 (start E_V2 qfo [(vi t)]) (fun r_ h_ => r_ = (vb (cellP t)) ∧ h_ = []) := .tree E_V2_ok (opcode_isCell_t t) (by
 show Tre.wp (Qv _ (fun x_ => (vb x_)) (cellP t)) _
 unfold cellP
 exact ⟨trivial, fun _ => fun _ => ⟨rfl, rfl⟩⟩)
theorem c_opcode_isCell : qal E_V2 qfo k_opcode_isCell.spec := qan fun x hx hp => ⟨rfl, m_opcode_isCell x.1 hx.1 hp⟩
theorem celP_iff (t : Int) : celP t = true ↔ 2 ≤ t ∧ t ≤ 5 := by
 simp only [celP, accP, z, Bool.cond_eq_ite, beq_iff_eq]
 repeat' split
 all_goals simp
 all_goals omega
def L_V2 : List (FuncId × FSpec) := [(f_lexer_word, k_lexer_word.spec), (f_opcode_Name, k_opcode_Name.spec), (qfj, k_verify_isCell.spec), (qfo, k_opcode_isCell.spec)] ++ L_V1
theorem L_V2_ok : ∀ x ∈ L_V2, qal (ctx []) x.1 x.2 := by
 unfold L_V2
 simp only [List.cons_append, List.nil_append, List.forall_mem_cons]
 exact ⟨c_lexer_word, c_opcode_Name, c_verify_isCell, c_opcode_isCell, L_V1_ok⟩
end Burn.MM
namespace Burn.MM
open Go Go.BE Go.Proofs
set_option maxRecDepth 100000
set_option linter.unusedVariables false
set_option linter.unusedSimpArgs false
open Burn.Intn Burn.Ref
noncomputable abbrev E_V3 : Ctx := ctx L_V2
theorem E_V3_ok : EOK E_V3 := qch L_V2_ok
def cuts_V3 : CutL := []
def rets_V3 : FuncId → List (Option Fx)
 | _ => []
def H_V3 : Hints := { cut := cutOf cuts_V3, ret := rets_V3 }
theorem verify_integer_t (t : Int) (n : Int) : run E_V3 H_V3 qej 3000 (start E_V3 qej [(vi t), (vi n)]) = (.chk (True) (.know (okD (.int .i64) (bitsZ t)) (cond (decide ((bitsZ t) > (0 : Int))) (.chk (True) (.know (okD (.int .i64) (wrapZ t n)) (rt (vb ((wrapZ t n) == n)) []))) (rt (vb false) [])))) := by kernel_rfl
def fitP (t : Int) (n : Int) : Bool := (cond (decide ((bitsZ t) > (0 : Int))) ((wrapZ t n) == n) false)

def k_verify_integer : Con := con [.d I, .d I] .bool (fun x => True) fun x => fitP x.1 x.2.1
theorem m_verify_integer (t : Int) (n : Int) (h_t : okD I t) (h_n : okD I n) (hp : True) : Runs E_V3 (start E_V3 qej [(vi t), (vi n)]) (fun r_ h_ => r_ = (vb (fitP t n)) ∧ h_ = []) := .tree E_V3_ok (verify_integer_t t n) (by
 show Tre.wp (Qv _ (fun x_ => (vb x_)) (fitP t n)) _
 unfold fitP
 refine ⟨trivial, fun _ => ?_⟩
 refine fun _ => ?_
 refine qag (fun h1 => ⟨trivial, fun _ => fun _ => ⟨rfl, rfl⟩⟩) (fun h1 => ?_)
 exact ⟨rfl, rfl⟩)
theorem c_verify_integer : qal E_V3 qej k_verify_integer.spec := qan fun x hx hp => ⟨rfl, m_verify_integer x.1 x.2.1 hx.1 hx.2.1 hp⟩
def L_V3 : List (FuncId × FSpec) := [(qej, k_verify_integer.spec)] ++ L_V2
theorem L_V3_ok : ∀ x ∈ L_V3, qal (ctx []) x.1 x.2 := by
 unfold L_V3
 simp only [List.cons_append, List.nil_append, List.forall_mem_cons]
 exact ⟨c_verify_integer, L_V2_ok⟩
end Burn.MM
namespace Burn.MM
open Go Go.BE Go.Proofs
set_option maxRecDepth 100000
set_option linter.unusedVariables false
set_option linter.unusedSimpArgs false
noncomputable abbrev E_V5 : Ctx := ctx L_V3
theorem qgz : EOK E_V5 := qch L_V3_ok
def cuts_V5 : CutL := [([], 50, 0, [1, 7, 8, 9], [], []),
 ([], 56, 0, [0, 1, 7, 8], [], []),
 ([], 76, 0, [1, 7, 8, 9], [], []),
 ([], 79, 0, [1, 7, 8, 9], [], []),
 ([], 87, 0, [0, 1, 7, 8], [], [])]
def rets_V5 : FuncId → List (Option Fx)
 | _ => []
def H_V5 : Hints := { cut := cutOf cuts_V5, ret := rets_V5 }
noncomputable def qde (x : Int) (t7 : List (Den I)) (t8 : Int) (t9 : Int) : Cfg := hcfg E_V5 qbl 0 [(1, (vi x)), (7, (.tv (.sl 8 I) t7)), (8, (vi t8)), (9, (vi t9))] [] 0
theorem verify_contains_int_t (l : List (Den I)) (x : Int) : run E_V5 H_V5 qbl 3000 (start E_V5 qbl [(.tv (.sl 8 I) l), (vi x)]) = (hd (qde x l ((ln I l) : Int) (0 : Int))) := by kernel_rfl
theorem qha (x : Int) (t7 : List (Den I)) (t8 : Int) (t9 : Int) : run E_V5 H_V5 qbl 3000 (qde x t7 t8 t9) = (cond (decide (t9 < t8)) (.chk (0 ≤ t9 ∧ t9 < (ln I t7)) (cond ((z (gd I t7 t9.toNat)) == x) (rt (vb true) []) (hd (qde x t7 t8 (IntKind.wrap .i64 (t9 + (1 : Int))))))) (rt (vb false) [])) := by kernel_rfl
noncomputable def qcr (x : Int) (t7 : List (Den I)) (t8 : Int) (t9 : Int) : Cfg := hcfg E_V5 qbf 0 [(1, (vi x)), (7, (.tv (.sl 8 I) t7)), (8, (vi t8)), (9, (vi t9))] [] 0
theorem verify_contains_int64_t (l : List (Den I)) (x : Int) : run E_V5 H_V5 qbf 3000 (start E_V5 qbf [(.tv (.sl 8 I) l), (vi x)]) = (hd (qcr x l ((ln I l) : Int) (0 : Int))) := by kernel_rfl
theorem qfv (x : Int) (t7 : List (Den I)) (t8 : Int) (t9 : Int) : run E_V5 H_V5 qbf 3000 (qcr x t7 t8 t9) = (cond (decide (t9 < t8)) (.chk (0 ≤ t9 ∧ t9 < (ln I t7)) (cond ((z (gd I t7 t9.toNat)) == x) (rt (vb true) []) (hd (qcr x t7 t8 (IntKind.wrap .i64 (t9 + (1 : Int))))))) (rt (vb false) [])) := by kernel_rfl
noncomputable def qcn (x : ByteArray) (t7 : List (Den .str)) (t8 : Int) (t9 : Int) : Cfg := hcfg E_V5 qba 0 [(1, (vs x)), (7, (.tv (.sl 16 .str) t7)), (8, (vi t8)), (9, (vi t9))] [] 0
theorem verify_contains_string_t (l : List (Den .str)) (x : ByteArray) : run E_V5 H_V5 qba 3000 (start E_V5 qba [(.tv (.sl 16 .str) l), (vs x)]) = (hd (qcn x l ((ln .str l) : Int) (0 : Int))) := by kernel_rfl
theorem qez (x : ByteArray) (t7 : List (Den .str)) (t8 : Int) (t9 : Int) : run E_V5 H_V5 qba 3000 (qcn x t7 t8 t9) = (cond (decide (t9 < t8)) (.chk (0 ≤ t9 ∧ t9 < (ln .str t7)) (cond (((tOf (gd .str t7 t9.toNat))).toList == (x).toList) (rt (vb true) []) (hd (qcn x t7 t8 (IntKind.wrap .i64 (t9 + (1 : Int))))))) (rt (vb false) [])) := by kernel_rfl
noncomputable def qco (s : List (Den I)) (v : Int) (t7 : Int) (t8 : Int) : Cfg := hcfg E_V5 qbb 0 [(0, (.tv (.sl 8 I) s)), (1, (vi v)), (7, (vi t7)), (8, (vi t8))] [] 0
theorem slices_Index_L_int_int_t (s : List (Den I)) (v : Int) : run E_V5 H_V5 qbb 3000 (start E_V5 qbb [(.tv (.sl 8 I) s), (vi v)]) = (hd (qco s v ((ln I s) : Int) (0 : Int))) := by kernel_rfl
theorem qfa (s : List (Den I)) (v : Int) (t7 : Int) (t8 : Int) : run E_V5 H_V5 qbb 3000 (qco s v t7 t8) = (cond (decide (t8 < t7)) (.chk (0 ≤ t8 ∧ t8 < (ln I s)) (cond (v == (z (gd I s t8.toNat))) (rt (vi t8) []) (hd (qco s v t7 (IntKind.wrap .i64 (t8 + (1 : Int))))))) (rt (vi (-1 : Int)) [])) := by kernel_rfl
noncomputable def qbv (s : List (Den I)) (v : Int) (t7 : Int) (t8 : Int) : Cfg := hcfg E_V5 qax 0 [(0, (.tv (.sl 8 I) s)), (1, (vi v)), (7, (vi t7)), (8, (vi t8))] [] 0
theorem slices_Index_L_int64_int64_t (s : List (Den I)) (v : Int) : run E_V5 H_V5 qax 3000 (start E_V5 qax [(.tv (.sl 8 I) s), (vi v)]) = (hd (qbv s v ((ln I s) : Int) (0 : Int))) := by kernel_rfl
theorem qdp (s : List (Den I)) (v : Int) (t7 : Int) (t8 : Int) : run E_V5 H_V5 qax 3000 (qbv s v t7 t8) = (cond (decide (t8 < t7)) (.chk (0 ≤ t8 ∧ t8 < (ln I s)) (cond (v == (z (gd I s t8.toNat))) (rt (vi t8) []) (hd (qbv s v t7 (IntKind.wrap .i64 (t8 + (1 : Int))))))) (rt (vi (-1 : Int)) [])) := by kernel_rfl
theorem stop_step {α : Type} {E : Ctx} {c : Cfg} {b : Bool} {x y : α} (f : α → AV) (hn : Runs E c (fun r h => r = f y ∧ h = [])) : (b = true → f x = f (cond b x y)) ∧ (b = false → Runs E c (fun r h => r = f (cond b x y) ∧ h = [])) := by
 cases b
 ·exact ⟨fun h => absurd h (by decide), fun _ => hn⟩
 ·exact ⟨fun _ => rfl, fun h => absurd h (by decide)⟩
def hasI : List (Den I) → Int → Bool
 | [], _ => false
 | y :: l, x => cond (z y == x) true (hasI l x)
def hasS : List (Den .str) → ByteArray → Bool
 | [], _ => false
 | y :: l, x => cond ((tOf y).toList == x.toList) true (hasS l x)
def idxI (x : Int) : Nat → List (Den I) → Int
 | _, [] => -1
 | i, y :: l => cond (x == z y) (i : Int) (idxI x (i + 1) l)
def idx0 (l : List (Den I)) (x : Int) : Int := idxI x 0 l
theorem idx_has (x : Int) : ∀ (l : List (Den I)) (i : Nat), decide (idxI x i l ≥ 0) = hasI l x
 | [], _ => rfl
 | y :: l, i => by
  have ih := idx_has x l (i + 1)
  rw [idxI, hasI, show (x == z y) = (z y == x) from by rw [Bool.eq_iff_iff]; simp; exact eq_comm]
  cases z y == x
  ·exact ih
  ·simp
theorem verify_contains_int_l (x : Int) (l : List (Den I)) (hl : ln I l < 9223372036854775807) : ∀ i, i ≤ ln I l → Runs E_V5 (qde x l (ln I l : Nat) i) (fun r h => r = vb (hasI (l.drop i) x) ∧ h = []) :=
 qci (.tree qgz (qha _ _ _ _) (by
  rw [drop_ln]
  simp only [sS, sL,  hasI]))
  fun i hi ih => .tree qgz (qha _ _ _ _) (by
   rw [drop_gd (l := l) (i := i) hi]
   simp only [sS, sL,  hi, wrapS hi hl, hasI]
   exact stop_step vb ih)
def k_verify_contains_int : Con := con [.d (.sl 8 I), .d I] .bool (fun x => True) fun x => hasI x.1 x.2.1
theorem m_verify_contains_int (l : List (Den I)) (x : Int) (h_l : okD (.sl 8 I) l) (h_x : okD I x) (hp : True) : Runs E_V5 (start E_V5 qbl [(.tv (.sl 8 I) l), (vi x)]) (fun r_ h_ => r_ = (vb (hasI l x)) ∧ h_ = []) := .tree qgz (verify_contains_int_t l x) (by
 simp only [sS]
 exact verify_contains_int_l x l (qbj h_l.1) 0 (Nat.zero_le _))
theorem c_verify_contains_int : qal E_V5 qbl k_verify_contains_int.spec := qan fun x hx hp => ⟨rfl, m_verify_contains_int x.1 x.2.1 hx.1 hx.2.1 hp⟩
theorem verify_contains_int64_l (x : Int) (l : List (Den I)) (hl : ln I l < 9223372036854775807) : ∀ i, i ≤ ln I l → Runs E_V5 (qcr x l (ln I l : Nat) i) (fun r h => r = vb (hasI (l.drop i) x) ∧ h = []) :=
 qci (.tree qgz (qfv _ _ _ _) (by
  rw [drop_ln]
  simp only [sS, sL,  hasI]))
  fun i hi ih => .tree qgz (qfv _ _ _ _) (by
   rw [drop_gd (l := l) (i := i) hi]
   simp only [sS, sL,  hi, wrapS hi hl, hasI]
   exact stop_step vb ih)
def k_verify_contains_int64 : Con := con [.d (.sl 8 I), .d I] .bool (fun x => True) fun x => hasI x.1 x.2.1
theorem m_verify_contains_int64 (l : List (Den I)) (x : Int) (h_l : okD (.sl 8 I) l) (h_x : okD I x) (hp : True) : Runs E_V5 (start E_V5 qbf [(.tv (.sl 8 I) l), (vi x)]) (fun r_ h_ => r_ = (vb (hasI l x)) ∧ h_ = []) := .tree qgz (verify_contains_int64_t l x) (by
 simp only [sS]
 exact verify_contains_int64_l x l (qbj h_l.1) 0 (Nat.zero_le _))
theorem c_verify_contains_int64 : qal E_V5 qbf k_verify_contains_int64.spec := qan fun x hx hp => ⟨rfl, m_verify_contains_int64 x.1 x.2.1 hx.1 hx.2.1 hp⟩
theorem verify_contains_string_l (x : ByteArray) (l : List (Den .str)) (hl : ln .str l < 9223372036854775807) : ∀ i, i ≤ ln .str l → Runs E_V5 (qcn x l (ln .str l : Nat) i) (fun r h => r = vb (hasS (l.drop i) x) ∧ h = []) :=
 qci (.tree qgz (qez _ _ _ _) (by
  rw [drop_ln]
  simp only [sS, sL,  hasS]))
  fun i hi ih => .tree qgz (qez _ _ _ _) (by
   rw [drop_gd (l := l) (i := i) hi]
   simp only [sS, sL,  hi, wrapS hi hl, hasS]
   exact stop_step vb ih)
def qhd : Con := con [.d (.sl 16 .str), .d .str] .bool (fun x => True) fun x => hasS x.1 x.2.1
theorem m_verify_contains_string (l : List (Den .str)) (x : ByteArray) (h_l : okD (.sl 16 .str) l) (h_x : okD .str x) (hp : True) : Runs E_V5 (start E_V5 qba [(.tv (.sl 16 .str) l), (vs x)]) (fun r_ h_ => r_ = (vb (hasS l x)) ∧ h_ = []) := .tree qgz (verify_contains_string_t l x) (by
 simp only [sS]
 exact verify_contains_string_l x l (qbj h_l.1) 0 (Nat.zero_le _))
theorem c_verify_contains_string : qal E_V5 qba qhd.spec := qan fun x hx hp => ⟨rfl, m_verify_contains_string x.1 x.2.1 hx.1 hx.2.1 hp⟩
theorem slices_Index_L_int_int_l (x : Int) (l : List (Den I)) (hl : ln I l < 9223372036854775807) : ∀ i, i ≤ ln I l → Runs E_V5 (qco l x (ln I l : Nat) i) (fun r h => r = vi (idxI x i (l.drop i)) ∧ h = []) :=
 qci (.tree qgz (qfa _ _ _ _) (by
  rw [drop_ln]
  simp only [sS, sL,  idxI]))
  fun i hi ih => .tree qgz (qfa _ _ _ _) (by
   rw [drop_gd (l := l) (i := i) hi]
   simp only [sS, sL,  hi, wrapS hi hl, idxI]
   exact stop_step vi ih)
def qhe : Con := con [.d (.sl 8 I), .d I] I (fun x => True) fun x => idx0 x.1 x.2.1
theorem m_slices_Index_L_int_int (s : List (Den I)) (v : Int) (h_s : okD (.sl 8 I) s) (h_v : okD I v) (hp : True) : Runs E_V5 (start E_V5 qbb [(.tv (.sl 8 I) s), (vi v)]) (fun r_ h_ => r_ = (vi (idx0 s v)) ∧ h_ = []) := .tree qgz (slices_Index_L_int_int_t s v) (by
 simp only [sS]
 exact slices_Index_L_int_int_l v s (qbj h_s.1) 0 (Nat.zero_le _))
theorem c_slices_Index_L_int_int : qal E_V5 qbb qhe.spec := qan fun x hx hp => ⟨rfl, m_slices_Index_L_int_int x.1 x.2.1 hx.1 hx.2.1 hp⟩
theorem slices_Index_L_int64_int64_l (x : Int) (l : List (Den I)) (hl : ln I l < 9223372036854775807) : ∀ i, i ≤ ln I l → Runs E_V5 (qbv l x (ln I l : Nat) i) (fun r h => r = vi (idxI x i (l.drop i)) ∧ h = []) :=
 qci (.tree qgz (qdp _ _ _ _) (by
  rw [drop_ln]
  simp only [sS, sL,  idxI]))
  fun i hi ih => .tree qgz (qdp _ _ _ _) (by
   rw [drop_gd (l := l) (i := i) hi]
   simp only [sS, sL,  hi, wrapS hi hl, idxI]
   exact stop_step vi ih)
def qet : Con := con [.d (.sl 8 I), .d I] I (fun x => True) fun x => idx0 x.1 x.2.1
theorem m_slices_Index_L_int64_int64 (s : List (Den I)) (v : Int) (h_s : okD (.sl 8 I) s) (h_v : okD I v) (hp : True) : Runs E_V5 (start E_V5 qax [(.tv (.sl 8 I) s), (vi v)]) (fun r_ h_ => r_ = (vi (idx0 s v)) ∧ h_ = []) := .tree qgz (slices_Index_L_int64_int64_t s v) (by
 simp only [sS]
 exact slices_Index_L_int64_int64_l v s (qbj h_s.1) 0 (Nat.zero_le _))
theorem c_slices_Index_L_int64_int64 : qal E_V5 qax qet.spec := qan fun x hx hp => ⟨rfl, m_slices_Index_L_int64_int64 x.1 x.2.1 hx.1 hx.2.1 hp⟩
def L_V5 : List (FuncId × FSpec) := [(qbl, k_verify_contains_int.spec), (qbf, k_verify_contains_int64.spec), (qba, qhd.spec), (qbb, qhe.spec), (qax, qet.spec)] ++ L_V3
theorem L_V5_ok : ∀ x ∈ L_V5, qal (ctx []) x.1 x.2 := by
 unfold L_V5
 simp only [List.cons_append, List.nil_append, List.forall_mem_cons]
 exact ⟨c_verify_contains_int, c_verify_contains_int64, c_verify_contains_string, c_slices_Index_L_int_int, c_slices_Index_L_int64_int64, L_V3_ok⟩
end Burn.MM
namespace Burn.MM
open Go Go.BE Go.Proofs
set_option maxRecDepth 100000
set_option linter.unusedVariables false
set_option linter.unusedSimpArgs false
noncomputable abbrev E_V6 : Ctx := ctx L_V5
theorem E_V6_ok : EOK E_V6 := qch L_V5_ok
def cuts_V6 : CutL := []
def rets_V6 : FuncId → List (Option Fx)
 | _ => []
def H_V6 : Hints := { cut := cutOf cuts_V6, ret := rets_V6 }
theorem slices_Contains_L_int_int_t (s : List (Den I)) (v : Int) : run E_V6 H_V6 qbm 3000 (start E_V6 qbm [(.tv (.sl 8 I) s), (vi v)]) = (.chk (True) (.know (okD (.int .i64) (idx0 s v)) (rt (vb (decide ((idx0 s v) ≥ (0 : Int)))) []))) := by kernel_rfl
theorem slices_Contains_L_int64_int64_t (s : List (Den I)) (v : Int) : run E_V6 H_V6 qbd 3000 (start E_V6 qbd [(.tv (.sl 8 I) s), (vi v)]) = (.chk (True) (.know (okD (.int .i64) (idx0 s v)) (rt (vb (decide ((idx0 s v) ≥ (0 : Int)))) []))) := by kernel_rfl

def qff : Con := con [.d (.sl 8 I), .d I] .bool (fun x => True) fun x => hasI x.1 x.2.1
theorem m_slices_Contains_L_int_int (s : List (Den I)) (v : Int) (h_s : okD (.sl 8 I) s) (h_v : okD I v) (hp : True) : Runs E_V6 (start E_V6 qbm [(.tv (.sl 8 I) s), (vi v)]) (fun r_ h_ => r_ = (vb (hasI s v)) ∧ h_ = []) := .tree E_V6_ok (slices_Contains_L_int_int_t s v) (by
 simp only [sS]
 exact fun _ => congrArg vb (idx_has _ _ 0))
theorem c_slices_Contains_L_int_int : qal E_V6 qbm qff.spec := qan fun x hx hp => ⟨rfl, m_slices_Contains_L_int_int x.1 x.2.1 hx.1 hx.2.1 hp⟩

def qdv : Con := con [.d (.sl 8 I), .d I] .bool (fun x => True) fun x => hasI x.1 x.2.1
theorem m_slices_Contains_L_int64_int64 (s : List (Den I)) (v : Int) (h_s : okD (.sl 8 I) s) (h_v : okD I v) (hp : True) : Runs E_V6 (start E_V6 qbd [(.tv (.sl 8 I) s), (vi v)]) (fun r_ h_ => r_ = (vb (hasI s v)) ∧ h_ = []) := .tree E_V6_ok (slices_Contains_L_int64_int64_t s v) (by
 simp only [sS]
 exact fun _ => congrArg vb (idx_has _ _ 0))
theorem c_slices_Contains_L_int64_int64 : qal E_V6 qbd qdv.spec := qan fun x hx hp => ⟨rfl, m_slices_Contains_L_int64_int64 x.1 x.2.1 hx.1 hx.2.1 hp⟩
def L_V6 : List (FuncId × FSpec) := [(qbm, qff.spec), (qbd, qdv.spec)] ++ L_V5
theorem L_V6_ok : ∀ x ∈ L_V6, qal (ctx []) x.1 x.2 := by
 unfold L_V6
 simp only [List.cons_append, List.nil_append, List.forall_mem_cons]
 exact ⟨c_slices_Contains_L_int_int, c_slices_Contains_L_int64_int64, L_V5_ok⟩
end Burn.MM
namespace Burn.MM
open Go Go.BE Go.Proofs
set_option maxRecDepth 100000
set_option linter.unusedVariables false
set_option linter.unusedSimpArgs false
noncomputable abbrev E_V7 : Ctx := ctx L_V6
theorem E_V7_ok : EOK E_V7 := qch L_V6_ok
def cuts_V7 : CutL := [([], 73, 0, [0, 6], [], [])]
def rets_V7 : FuncId → List (Option Fx)
 | _ => []
def H_V7 : Hints := { cut := cutOf cuts_V7, ret := rets_V7 }
noncomputable def qeg (s : ByteArray) (t6_s : ByteArray) (t6_p : Nat) : Cfg := hcfg E_V7 qdd 0 [(0, (vs s)), (6, (.ref 0 0))] [(0, ⟨(.obj (.iter t6_s t6_p)), 0, [], false, none⟩)] 1
theorem lexer_IsIdent_t (s : ByteArray) : run E_V7 H_V7 qdd 3000 (start E_V7 qdd [(vs s)]) = (hd (qeg s s (0 : Nat))) := by kernel_rfl
theorem lexer_IsIdent_L0_t (s : ByteArray) (t6_s : ByteArray) (t6_p : Nat) : run E_V7 H_V7 qdd 3000 (qeg s t6_s t6_p) = (cond (decide (t6_p < ByteArray.size t6_s)) (cond (decide ((runeAt t6_s t6_p) ≥ (128 : Int))) (rt (vb false) []) (.chk (True) (.know True (cond (!(wordF (IntKind.wrap .u8 (runeAt t6_s t6_p)))) (rt (vb false) []) (cond ((t6_p : Int) == (0 : Int)) (.chk (True) (.know True (cond (digitF (IntKind.wrap .u8 (runeAt t6_s t6_p))) (rt (vb false) []) (hd (qeg s t6_s (t6_p + runeW t6_s t6_p)))))) (hd (qeg s t6_s (t6_p + runeW t6_s t6_p)))))))) (cond (!((s).toList == (ByteArray.empty).toList)) (rt (vb (decide (((s).size : Int) ≤ (24 : Int)))) []) (rt (vb false) []))) := by kernel_rfl
def byt (s : ByteArray) (i : Nat) : Int := ((((s[i]?).getD 0).toNat : Nat) : Int)
def allW (s : ByteArray) : Nat → Nat → Bool
 | 0, _ => true
 | n + 1, i => cond (wordF (byt s i)) (allW s n (i + 1)) false
def identF (s : ByteArray) : Bool := cond (decide ((s.size : Int) ≤ 24)) (cond (s.size == 0) false (cond (digitF (byt s 0)) false (allW s s.size 0))) false
def lexW (s : ByteArray) : Nat → Nat → Bool
 | 0, _ => cond (s.size == 0) false (decide ((s.size : Int) ≤ 24))
 | n + 1, i => cond (wordF (byt s i)) (cond (cond (i == 0) (digitF (byt s i)) false) false (lexW s n (i + 1))) false
theorem lexW_all (s : ByteArray) : ∀ (n i : Nat), i ≠ 0 → lexW s n i = cond (allW s n i) (cond (s.size == 0) false (decide ((s.size : Int) ≤ 24))) false
 | 0, i, _ => rfl
 | n + 1, i, h => by
  have hi : (i == 0) = false := by simpa using h
  simp only [lexW, allW, hi, lexW_all s n (i + 1) (by omega), cond_false]
  cases wordF (byt s i) <;> rfl
theorem ident_lex (s : ByteArray) : cond (decide ((s.size : Int) ≤ 24)) (lexW s s.size 0) false = identF s := by
 unfold identF
 cases h : s.size with
 | zero => simp [lexW, h]
 | succ n =>
  simp only [lexW, allW, lexW_all s n 1 (by omega), h]
  cases wordF (byt s 0) <;> cases digitF (byt s 0) <;> cases allW s n 1 <;> simp
theorem word_high {c : Int} (h : 128 ≤ c) : wordF c = false := by
 have h1 : letterF c = false := by
  rw [← Bool.not_eq_true]
  unfold letterF
  simp only [Bool.cond_eq_ite, decide_eq_true_eq]
  repeat' split
  all_goals simp
  all_goals omega
 have h2 : digitF c = false := by
  rw [← Bool.not_eq_true]
  unfold digitF
  simp only [Bool.cond_eq_ite, decide_eq_true_eq]
  repeat' split
  all_goals simp
  all_goals omega
 rw [wordF, h1, h2]
 rfl
theorem toList_nil (s : ByteArray) : (s.toList == ByteArray.empty.toList) = (s.size == 0) := by
 rw [ByteArray.toList_eq, ByteArray.toList_eq]
 show (s.data.toList == []) = (s.data.size == 0)
 obtain ⟨⟨l⟩⟩ := s
 cases l <;> rfl
theorem byt_at {s : ByteArray} {i : Nat} (h : i < s.size) : byt s i = ((s[i]'h).toNat : Int) := by
 unfold byt
 rw [getElem?_pos s i h]
 rfl
theorem byt_lt (s : ByteArray) (i : Nat) : 0 ≤ byt s i ∧ byt s i < 256 := by
 unfold byt
 have := ((s[i]?).getD 0).toNat_lt
 omega
theorem rune_low {s : ByteArray} {i : Nat} (h : i < s.size) (hb : byt s i < 128) : runeAt s i = byt s i ∧ runeW s i = 1 := by
 rw [byt_at h] at hb ⊢
 have := Go.decode_ascii s i h (by omega)
 unfold runeAt runeW
 rw [this]
 exact ⟨rfl, rfl⟩
theorem rune_high {s : ByteArray} {i : Nat} (h : i < s.size) (hb : ¬ byt s i < 128) : 128 ≤ runeAt s i := by
 rw [byt_at h] at hb
 have := (Go.decode_high s i h (by omega)).1
 unfold runeAt
 omega
theorem wrapU {c : Int} (h : 0 ≤ c ∧ c < 256) : IntKind.wrap .u8 c = c := by
 simp only [IntKind.wrap, IntKind.bits, IntKind.signed, Bool.false_and, Bool.false_eq_true, if_false]
 omega
def lexI (s : ByteArray) : Bool := lexW s s.size 0
theorem lexer_IsIdent_l (s : ByteArray) : ∀ i, i ≤ s.size → Runs E_V7 (qeg s s i) (fun r h => r = vb (lexW s (s.size - i) i) ∧ h = []) :=
 qci (.tree E_V7_ok (lexer_IsIdent_L0_t _ _ _) (by
  rw [Nat.sub_self, toList_nil, lexW]
  simp only [sS, sL,  Nat.lt_irrefl]
  cases s.size == 0 <;> simp))
  fun i hi ih => .tree E_V7_ok (lexer_IsIdent_L0_t _ _ _) (by
   rw [show s.size - i = (s.size - (i + 1)) + 1 by omega, lexW]
   simp only [sS, sL,  hi]
   by_cases hb : byt s i < 128
   ·obtain ⟨h1, h2⟩ := rune_low hi hb
    rw [h1, h2, wrapU (byt_lt s i)]
    have h3 : decide (byt s i ≥ 128) = false := by simpa using hb
    have h4 : ((i : Int) == 0) = (i == 0) := by rw [Bool.eq_iff_iff]; simp
    rw [h3, h4]
    cases wordF (byt s i) <;> cases digitF (byt s i) <;> cases i == 0 <;> simp <;> exact ih
   ·have h3 : decide (runeAt s i ≥ 128) = true := by simpa using rune_high hi hb
    rw [h3, word_high (by omega)]
    simp)
def k_lexer_IsIdent : Con := con [.d .str] .bool (fun x => True) fun x => lexI x.1
theorem m_lexer_IsIdent (s : ByteArray) (h_s : okD .str s) (hp : True) : Runs E_V7 (start E_V7 qdd [(vs s)]) (fun r_ h_ => r_ = (vb (lexI s)) ∧ h_ = []) := .tree E_V7_ok (lexer_IsIdent_t s) (by
 simp only [sS]
 exact lexer_IsIdent_l s 0 (Nat.zero_le _))
theorem c_lexer_IsIdent : qal E_V7 qdd k_lexer_IsIdent.spec := qan fun x hx hp => ⟨rfl, m_lexer_IsIdent x.1 hx.1 hp⟩
def L_V7 : List (FuncId × FSpec) := [(qdd, k_lexer_IsIdent.spec)] ++ L_V6
theorem L_V7_ok : ∀ x ∈ L_V7, qal (ctx []) x.1 x.2 := by
 unfold L_V7
 simp only [List.cons_append, List.nil_append, List.forall_mem_cons]
 exact ⟨c_lexer_IsIdent, L_V6_ok⟩
end Burn.MM
namespace Burn.MM
open Go Go.BE Go.Proofs
set_option maxRecDepth 100000
set_option linter.unusedVariables false
set_option linter.unusedSimpArgs false
noncomputable abbrev E_V8 : Ctx := ctx L_V7
theorem E_V8_ok : EOK E_V8 := qch L_V7_ok
def cuts_V8 : CutL := []
def rets_V8 : FuncId → List (Option Fx)
 | _ => []
def H_V8 : Hints := { cut := cutOf cuts_V8, ret := rets_V8 }
theorem verify_identifier_t (s : ByteArray) : run E_V8 H_V8 qda 3000 (start E_V8 qda [(vs s)]) = (cond (decide (((s).size : Int) ≤ (24 : Int))) (.chk (True) (.know True (rt (vb (lexI s)) []))) (rt (vb false) [])) := by kernel_rfl
def k_verify_identifier : Con := con [.d .str] .bool (fun x => True) fun x => identF x.1
theorem m_verify_identifier (s : ByteArray) (h_s : okD .str s) (hp : True) : Runs E_V8 (start E_V8 qda [(vs s)]) (fun r_ h_ => r_ = (vb (identF s)) ∧ h_ = []) := .tree E_V8_ok (verify_identifier_t s) (by
 simp only [sS]
 rw [← ident_lex]
 cases decide ((s.size : Int) ≤ 24) <;> simp <;> rfl)
theorem c_verify_identifier : qal E_V8 qda k_verify_identifier.spec := qan fun x hx hp => ⟨rfl, m_verify_identifier x.1 hx.1 hp⟩
def L_V8 : List (FuncId × FSpec) := [(qda, k_verify_identifier.spec)] ++ L_V7
theorem L_V8_ok : ∀ x ∈ L_V8, qal (ctx []) x.1 x.2 := by
 unfold L_V8
 simp only [List.cons_append, List.nil_append, List.forall_mem_cons]
 exact ⟨c_verify_identifier, L_V7_ok⟩
end Burn.MM
namespace Burn.MM
open Go Go.BE Go.Proofs
set_option maxRecDepth 100000
set_option linter.unusedVariables false
set_option linter.unusedSimpArgs false
noncomputable abbrev E_V9 : Ctx := ctx L_V8
theorem E_V9_ok : EOK E_V9 := qch L_V8_ok
def cuts_V9 : CutL := [([], 54, 0, [2, 3, 4, 8, 9, 10], [], [])]
def rets_V9 : FuncId → List (Option Fx)
 | _ => []
def H_V9 : Hints := { cut := cutOf cuts_V9, ret := rets_V9 }
noncomputable def qgt (l : List (Den I)) (at_ : Den qak) (f : Den qaa) (t8 : List (Den I)) (t9 : Int) (t10 : Int) : Cfg := hcfg E_V9 qcz 0 [(2, (.tv (.sl 8 I) l)), (3, (.rtp qak at_)), (4, (.rtp qaa f)), (8, (.tv (.sl 8 I) t8)), (9, (vi t9)), (10, (vi t10))] [] 0
theorem verify_params_t (at_ : Den qak) (f : Den qaa) (l : List (Den I)) : run E_V9 H_V9 qcz 3000 (start E_V9 qcz [(.tv qak at_), (.tv qaa f), (.tv (.sl 8 I) l)]) = (hd (qgt l at_ f l ((ln I l) : Int) (0 : Int))) := by kernel_rfl
theorem verify_params_L0_t (l : List (Den I)) (at_ : Den qak) (f : Den qaa) (t8 : List (Den I)) (t9 : Int) (t10 : Int) : run E_V9 H_V9 qcz 3000 (qgt l at_ f t8 t9 t10) = (cond (decide (t10 < t9)) (.chk (0 ≤ t10 ∧ t10 < (ln I t8)) (.chk (True) (.know True (cond (!(regP f (gd I t8 t10.toNat))) (pn (.val (.iface 91 (.agg #[.int .i64 (10 : Int), .int .i64 (z at_.1), .int .i64 (z at_.2.1), .int .i64 (z at_.2.2.1), .int .i64 (z at_.2.2.2.1)])))) (.chk (0 ≤ (0 : Int) ∧ (0 : Int) ≤ t10 ∧ t10 ≤ ((ln I l) : Int)) (.chk (True) (.know True (cond (!(!(hasI (wn I l (0 : Nat) (t10.toNat - (0 : Nat))) (gd I t8 t10.toNat)))) (pn (.val (.iface 91 (.agg #[.int .i64 (7 : Int), .int .i64 (z at_.1), .int .i64 (z at_.2.1), .int .i64 (z at_.2.2.1), .int .i64 (z at_.2.2.2.1)])))) (hd (qgt l at_ f t8 t9 (IntKind.wrap .i64 (t10 + (1 : Int))))))))))))) (rt (.tup []) [])) := by kernel_rfl
def atD (p : Plc) (e : Int) : Dg := (e, p.1, p.2.1, p.2.2.1, p.2.2.2.1, ())
def qas (e : Nat → Int) : Nat → Nat → Int
 | 0, _ => 0
 | n + 1, i => cond (e i == 0) (qas e n (i + 1)) (e i)
def parI (f : Fn) (l : List (Den I)) (i : Nat) : Int := cond (!(regP f (gd I l i))) 10 (cond (hasI (wn I l 0 i) (gd I l i)) 7 0)
def parE (f : Fn) (l : List (Den I)) : Int := qas (parI f l) (ln I l) 0
def parF (p : Plc) (f : Fn) (l : List (Den I)) : Dg := atD p (parE f l)
def dgV (d : Dg) : Value := .agg #[.int .i64 d.1, .int .i64 d.2.1, .int .i64 d.2.2.1, .int .i64 d.2.2.2.1, .int .i64 d.2.2.2.2.1]
def ifD (d : Dg) : AV := .val (.iface 91 (dgV d))
def PanD (E : Ctx) (c : Cfg) (d : Dg) : Prop := RunsP E c (fun r h => r = .tup [] ∧ h = [] ∧ errB d = false) (fun r => r = ifD d ∧ errB d = true)
def RetI (E : Ctx) (c : Cfg) (e : Int) : Prop := Runs E c (fun r h => r = vi e ∧ h = [])
theorem sub1 {n i : Nat} (h : i < n) : n - i = (n - (i + 1)) + 1 := by omega
theorem first_hit {e : Nat → Int} {n i : Nat} (h : e i ≠ 0) : qas e (n + 1) i = e i := by
 rw [qas, beq_eq_false_iff_ne.mpr h]; rfl
theorem first_miss {e : Nat → Int} {n i : Nat} (h : e i = 0) : qas e (n + 1) i = qas e n (i + 1) := by
 rw [qas, h]; rfl
theorem PanD.hit {e : Nat → Int} {n i : Nat} {p : Plc} {x : Int} {r : AV} (h : e i = x) (hx : x ≠ 0) (hr : r = ifD (atD p x)) : r = ifD (atD p (qas e (n + 1) i)) ∧ errB (atD p (qas e (n + 1) i)) = true := by
 subst hr
 rw [first_hit (by rw [h]; exact hx), h]
 refine ⟨rfl, ?_⟩
 show (!(x == 0)) = true
 simpa using hx
theorem PanD.miss {E : Ctx} {c : Cfg} {e : Nat → Int} {n i : Nat} {p : Plc} (h : e i = 0) (ih : PanD E c (atD p (qas e n (i + 1)))) : PanD E c (atD p (qas e (n + 1) i)) := by
 rw [first_miss h]; exact ih
theorem RetI.hit {e : Nat → Int} {n i : Nat} {x : Int} (h : e i = x) (hx : x ≠ 0) : vi x = vi (qas e (n + 1) i) := by
 rw [first_hit (by rw [h]; exact hx), h]
theorem RetI.miss {E : Ctx} {c : Cfg} {e : Nat → Int} {n i : Nat} (h : e i = 0) (ih : RetI E c (qas e n (i + 1))) : RetI E c (qas e (n + 1) i) := by
 rw [first_miss h]; exact ih
theorem verify_params_l (p : Plc) (f : Fn) (l : List (Den I)) (hl : ln I l < 9223372036854775807) : ∀ i, i ≤ ln I l → PanD E_V9 (qgt l p f l (ln I l : Nat) i) (atD p (qas (parI f l) (ln I l - i) i)) :=
 qci (RunsP.tree E_V9_ok (verify_params_L0_t _ _ _ _ _ _) (by
  rw [Nat.sub_self]
  simp only [sQ, sL,  Nat.lt_irrefl]
  rfl))
  fun i hi ih => RunsP.tree E_V9_ok (verify_params_L0_t _ _ _ _ _ _) (by
   rw [sub1 hi]
   simp only [sQ, sL,  hi, wrapS hi hl, Nat.sub_zero]
   refine ⟨fun h1 => PanD.hit (x := 10) (by simp only [parI, h1, cond_true]) (by decide) rfl, fun h1 => ⟨⟨by decide, by omega⟩, fun _ => ⟨fun h2 => PanD.hit (x := 7) (by simp [parI, h1, show hasI (wn I l 0 i) (gd I l i) = _ from by simpa using h2]) (by decide) rfl, fun h2 => PanD.miss (by simp [parI, h1, show hasI (wn I l 0 i) (gd I l i) = _ from by simpa using h2]) ih⟩⟩⟩)
def k_verify_params : ConP := ⟨[.d qak, .d qaa, .d (.sl 8 I)], fun x => True, fun x => errB (parF x.1 x.2.1 x.2.2.1), fun x => ifD (parF x.1 x.2.1 x.2.2.1)⟩
theorem m_verify_params (at_ : Den qak) (f : Den qaa) (l : List (Den I)) (h_at_ : okD qak at_) (h_f : okD qaa f) (h_l : okD (.sl 8 I) l) (hp : True) : RunsP E_V9 (start E_V9 qcz [(.tv qak at_), (.tv qaa f), (.tv (.sl 8 I) l)]) (fun r_ h_ => r_ = .tup [] ∧ h_ = [] ∧ errB (parF at_ f l) = false) (fun r_ => r_ = ifD (parF at_ f l) ∧ errB (parF at_ f l) = true) := .tree E_V9_ok (verify_params_t at_ f l) (by
 simp only [sQ]
 exact verify_params_l at_ f l (qbj h_l.1) 0 (Nat.zero_le _))
theorem c_verify_params : qal E_V9 qcz k_verify_params.spec := spec_ofP fun x hx hp => ⟨rfl, m_verify_params x.1 x.2.1 x.2.2.1 hx.1 hx.2.1 hx.2.2.1 hp⟩
def L_V9 : List (FuncId × FSpec) := [(qcz, k_verify_params.spec)] ++ L_V8
theorem L_V9_ok : ∀ x ∈ L_V9, qal (ctx []) x.1 x.2 := by
 unfold L_V9
 simp only [List.cons_append, List.nil_append, List.forall_mem_cons]
 exact ⟨c_verify_params, L_V8_ok⟩
end Burn.MM
namespace Burn.MM
open Go Go.BE Go.Proofs
set_option maxRecDepth 100000
set_option linter.unusedVariables false
set_option linter.unusedSimpArgs false
noncomputable abbrev E_V10 : Ctx := ctx L_V9
theorem E_V10_ok : EOK E_V10 := qch L_V9_ok
def cuts_V10 : CutL := [([], 29, 0, [2, 13, 14, 15], [(.t 2, .own 16 .str)], []),
 ([], 29, 2, [2, 4, 5, 13, 14, 15, 74, 75, 76], [], [])]
def rets_V10 : FuncId → List (Option Fx)
 | _ => []
def H_V10 : Hints := { cut := cutOf cuts_V10, ret := rets_V10 }
noncomputable def qdo (t13 : List (Den qaf)) (t14 : Int) (t15 : Int) (names : List (Den .str)) : Cfg := hcfg E_V10 qby 0 [(2, (.osl 0 0 [] none)), (13, (.tv (.sl 64 qaf) t13)), (14, (vi t14)), (15, (vi t15))] [(0, ⟨(.arr 0 16 .str names), 0, [], false, none⟩)] 1
noncomputable def qck (t13 : List (Den qaf)) (t14 : Int) (t15 : Int) (t74 : List (Den I)) (t75 : Int) (t76 : Int) (names : List (Den .str)) (g_0 : ByteArray) (g_1 : Int) (g_2 : Int) (g_3 : List (Den I)) (g_4 : Bool) (at_ : Den qak) : Cfg := hcfg E_V10 qby 2 [(2, (.osl 0 0 [] none)), (4, (.ref 1 0)), (5, (.tref 2 2 [] (0 : Nat) [])), (13, (.tv (.sl 64 qaf) t13)), (14, (vi t14)), (15, (vi t15)), (74, (.tv (.sl 8 I) t74)), (75, (vi t75)), (76, (vi t76))] [(0, ⟨(.arr 0 16 .str names), 0, [], false, none⟩), (1, ⟨(.cells [(vs g_0), (vi g_1), (vi g_2), (.tv (.sl 8 I) g_3), (vb g_4)]), 1, [], false, none⟩), (2, ⟨(.arr 0 32 qak ([at_] : List (Den qak))), 2, [], false, none⟩)] 3
theorem verify_globals_t (l : List (Den qaf)) : run E_V10 H_V10 qby 3000 (start E_V10 qby [(.tv (.sl 64 qaf) l)]) = (cond (!(decide (((ln qaf l) : Int) ≤ (32 : Int)))) (pn (.val (.iface 91 (.agg #[.int .i64 (11 : Int), .int .i64 (1 : Int), .int .i64 (-1 : Int), .int .i64 (-1 : Int), .int .i64 (-1 : Int)])))) (hd (qdo l ((ln qaf l) : Int) (0 : Int) ([] : List (Den .str))))) := by kernel_rfl
theorem verify_globals_L0_t (t13 : List (Den qaf)) (t14 : Int) (t15 : Int) (names : List (Den .str)) : run E_V10 H_V10 qby 3000 (qdo t13 t14 t15 names) = (cond (decide (t15 < t14)) (.chk (0 ≤ t15 ∧ t15 < (ln qaf t13)) (.chk ((0 : Nat) < (1 : Nat)) (.chk ((0 : Nat) < (1 : Nat)) (.chk (True) (.know True (cond (!(identF (gd qaf t13 t15.toNat).1)) (pn (.val (.iface 91 (.agg #[.int .i64 (6 : Int), .int .i64 (1 : Int), .int .i64 t15, .int .i64 (-1 : Int), .int .i64 (-1 : Int)])))) (.chk ((0 : Nat) < (1 : Nat)) (.chk (True) (.know True (cond (!(!(hasS names (gd qaf t13 t15.toNat).1))) (pn (.val (.iface 91 (.agg #[.int .i64 (7 : Int), .int .i64 (1 : Int), .int .i64 t15, .int .i64 (-1 : Int), .int .i64 (-1 : Int)])))) (.chk (((ln .str names) + (1 : Nat)) * 16 ≤ roomB) (.chk ((0 : Nat) < (1 : Nat)) (.chk (True) (.know True (cond (!(celP (gd qaf t13 t15.toNat).2.1)) (pn (.val (.iface 91 (.agg #[.int .i64 (9 : Int), .int .i64 (1 : Int), .int .i64 t15, .int .i64 (-1 : Int), .int .i64 (-1 : Int)])))) (.chk ((0 : Nat) < (1 : Nat)) (cond (decide ((z ((gd qaf t13 t15.toNat).2.2.1)) ≥ (1 : Int))) (cond (!(decide ((z ((gd qaf t13 t15.toNat).2.2.1)) ≤ (256 : Int)))) (pn (.val (.iface 91 (.agg #[.int .i64 (10 : Int), .int .i64 (1 : Int), .int .i64 t15, .int .i64 (-1 : Int), .int .i64 (-1 : Int)])))) (.chk ((0 : Nat) < (1 : Nat)) (cond (!(decide (((ln I ((gd qaf t13 t15.toNat).2.2.2.1)) : Int) ≤ (z ((gd qaf t13 t15.toNat).2.2.1))))) (pn (.val (.iface 91 (.agg #[.int .i64 (5 : Int), .int .i64 (1 : Int), .int .i64 t15, .int .i64 (-1 : Int), .int .i64 (-1 : Int)])))) (.chk ((0 : Nat) < (1 : Nat)) (cond ((z ((gd qaf t13 t15.toNat).2.1)) != (5 : Int)) (hd (qck t13 t14 t15 ((gd qaf t13 t15.toNat).2.2.2.1) ((ln I ((gd qaf t13 t15.toNat).2.2.2.1)) : Int) (0 : Int) (ap .str names ([(gd qaf t13 t15.toNat).1] : List (Den .str))) (tOf ((gd qaf t13 t15.toNat).1)) (z ((gd qaf t13 t15.toNat).2.1)) (z ((gd qaf t13 t15.toNat).2.2.1)) ((gd qaf t13 t15.toNat).2.2.2.1) (bOf ((gd qaf t13 t15.toNat).2.2.2.2.1)) ((1 : Int), t15, (-1 : Int), (-1 : Int), ()))) (cond (!(((ln I ((gd qaf t13 t15.toNat).2.2.2.1)) : Int) == (0 : Int))) (pn (.val (.iface 91 (.agg #[.int .i64 (9 : Int), .int .i64 (1 : Int), .int .i64 t15, .int .i64 (-1 : Int), .int .i64 (-1 : Int)])))) (hd (qck t13 t14 t15 ((gd qaf t13 t15.toNat).2.2.2.1) ((ln I ((gd qaf t13 t15.toNat).2.2.2.1)) : Int) (0 : Int) (ap .str names ([(gd qaf t13 t15.toNat).1] : List (Den .str))) (tOf ((gd qaf t13 t15.toNat).1)) (z ((gd qaf t13 t15.toNat).2.1)) (z ((gd qaf t13 t15.toNat).2.2.1)) ((gd qaf t13 t15.toNat).2.2.2.1) (bOf ((gd qaf t13 t15.toNat).2.2.2.2.1)) ((1 : Int), t15, (-1 : Int), (-1 : Int), ()))))))))) (pn (.val (.iface 91 (.agg #[.int .i64 (10 : Int), .int .i64 (1 : Int), .int .i64 t15, .int .i64 (-1 : Int), .int .i64 (-1 : Int)]))))))))))))))))))))) (rt (.tup []) [])) := by kernel_rfl
theorem verify_globals_L2_t (t13 : List (Den qaf)) (t14 : Int) (t15 : Int) (t74 : List (Den I)) (t75 : Int) (t76 : Int) (names : List (Den .str)) (g_0 : ByteArray) (g_1 : Int) (g_2 : Int) (g_3 : List (Den I)) (g_4 : Bool) (at_ : Den qak) : run E_V10 H_V10 qby 3000 (qck t13 t14 t15 t74 t75 t76 names g_0 g_1 g_2 g_3 g_4 at_) = (cond (decide (t76 < t75)) (.chk (0 ≤ t76 ∧ t76 < (ln I t74)) (.chk ((0 : Nat) < (1 : Nat)) (.chk (True) (.know True (cond (!(fitP g_1 (gd I t74 t76.toNat))) (pn (.val (.iface 91 (.agg #[.int .i64 (10 : Int), .int .i64 (z at_.1), .int .i64 (z at_.2.1), .int .i64 (z at_.2.2.1), .int .i64 (z at_.2.2.2.1)])))) (hd (qck t13 t14 t15 t74 t75 (IntKind.wrap .i64 (t76 + (1 : Int))) names g_0 g_1 g_2 g_3 g_4 at_))))))) (hd (qdo t13 t14 (IntKind.wrap .i64 (t15 + (1 : Int))) names))) := by kernel_rfl
theorem onP {P Q : Prop} (h : P → Q) : P → Q := h
def noD : Dg := ((0 : Int), (0 : Int), (0 : Int), (0 : Int), (0 : Int), ())
def orD (a b : Dg) : Dg := cond (errB a) a b
def qfh (d : Nat → Dg) : Nat → Nat → Dg
 | 0, _ => noD
 | n + 1, i => orD (d i) (qfh d n (i + 1))
theorem errAt {p : Plc} {x : Int} : errB (atD p x) = !(x == 0) := rfl
theorem or_hit {a b : Dg} (h : errB a = true) : orD a b = a := by rw [orD, h]; rfl
theorem qer {a b : Dg} (h : errB a = false) : orD a b = b := by rw [orD, h]; rfl
theorem thr {d x : Dg} {r : AV} (h : d = x) (hx : errB x = true) (hr : r = ifD x) : r = ifD d ∧ errB d = true := by subst h; exact ⟨hr, hx⟩
theorem thr_fd {D : Nat → Dg} {n i : Nat} {p : Plc} {x : Int} {r : AV} (h : D i = atD p x) (hx : (x == 0) = false) (hr : r = ifD (atD p x)) : r = ifD (qfh D (n + 1) i) ∧ errB (qfh D (n + 1) i) = true := by
 have he : errB (D i) = true := by rw [h, errAt, hx]; rfl
 rw [qfh, or_hit he]
 exact thr h (by rw [errAt, hx]; rfl) hr
theorem thr_or {a b : Dg} {r : AV} (h : r = ifD a ∧ errB a = true) : r = ifD (orD a b) ∧ errB (orD a b) = true := by rw [or_hit h.2]; exact h
theorem at_zero {p : Plc} : errB (atD p 0) = false := rfl
def fitI (t : Int) (l : List (Den I)) (k : Nat) : Int := cond (!(fitP t (gd I l k))) 10 0
def fitE (t : Int) (l : List (Den I)) : Int := qas (fitI t l) (ln I l) 0
def namG (l : List Glob) (i : Nat) : List (Den .str) := (l.take i).map fun g => g.1
theorem namG_ln {l : List Glob} {i : Nat} (h : i ≤ ln qaf l) : ln .str (namG l i) = i := by
 show ((l.take i).map _).length = i
 rw [List.length_map, List.length_take]
 exact Nat.min_eq_left h
theorem namG_ap {l : List Glob} {i : Nat} (h : i < ln qaf l) : ap .str (namG l i) ([(gd qaf l i).1] : List (Den .str)) = namG l (i + 1) := by
 show (l.take i).map _ ++ [_] = (l.take (i + 1)).map _
 rw [List.take_succ_eq_append_getElem h, List.map_append]
 refine congrArg (fun x => _ ++ [x]) ?_
 have hq : l[i]? = some l[i] := List.getElem?_eq_getElem h
 simp [gd, hq]
def gloI (l : List Glob) (i : Nat) : Int :=
 cond (!(identF (gd qaf l i).1)) 6 (cond (!(!(hasS (namG l i) (gd qaf l i).1))) 7 (cond (!(celP (gd qaf l i).2.1)) 9
  (cond (decide (z (gd qaf l i).2.2.1 ≥ (1 : Int))) (cond (!(decide (z (gd qaf l i).2.2.1 ≤ (256 : Int)))) 10 (cond (!(decide ((ln I (gd qaf l i).2.2.2.1 : Int) ≤ z (gd qaf l i).2.2.1))) 5
   (cond (z (gd qaf l i).2.1 != (5 : Int)) (fitE (z (gd qaf l i).2.1) (gd qaf l i).2.2.2.1) (cond (!((ln I (gd qaf l i).2.2.2.1 : Int) == (0 : Int))) 9 (fitE (z (gd qaf l i).2.1) (gd qaf l i).2.2.2.1))))) 10)))
def plG (i : Nat) : Plc := ((1 : Int), (i : Int), (-1 : Int), (-1 : Int), ())
def gloD (l : List Glob) : Dg := cond (!(decide ((ln qaf l : Int) ≤ 32))) (atD ((1 : Int), (-1 : Int), (-1 : Int), (-1 : Int), ()) 11) (qfh (fun i => atD (plG i) (gloI l i)) (ln qaf l) 0)
theorem verify_globals_l2 (l : List Glob) (i : Nat) (nm : List (Den .str)) (g0 : ByteArray) (g1 g2 : Int) (g3 : List (Den I)) (g4 : Bool) (p : Plc) (d : Dg) (hi : i < ln qaf l) (hl : ln qaf l < 9223372036854775807) (h3 : ln I g3 < 9223372036854775807)
  (ih : PanD E_V10 (qdo l (ln qaf l : Nat) (i + 1 : Nat) nm) d) : ∀ k, k ≤ ln I g3 → PanD E_V10 (qck l (ln qaf l : Nat) i g3 (ln I g3 : Nat) k nm g0 g1 g2 g3 g4 p) (orD (atD p (qas (fitI g1 g3) (ln I g3 - k) k)) d) :=
 qci (RunsP.tree E_V10_ok (verify_globals_L2_t _ _ _ _ _ _ _ _ _ _ _ _ _) (by
  rw [Nat.sub_self]
  simp only [sQ, sL,  Nat.lt_irrefl, wrapS hi hl]
  exact ih))
  fun k hk ihk => RunsP.tree E_V10_ok (verify_globals_L2_t _ _ _ _ _ _ _ _ _ _ _ _ _) (by
   rw [sub1 hk]
   simp only [sQ, sL,  hk, wrapS hk h3]
   refine ⟨fun h1 => thr_or (PanD.hit (x := 10) (by simp only [fitI, h1, cond_true]) (by decide) rfl), fun h1 => ?_⟩
   rw [first_miss (by simp only [fitI, h1, cond_false])]
   exact ihk)
theorem verify_globals_l0 (l : List Glob) (h32 : (ln qaf l : Int) ≤ 32) (hx : okD (.sl 64 qaf) l) : ∀ i, i ≤ ln qaf l → PanD E_V10 (qdo l (ln qaf l : Nat) i (namG l i)) (qfh (fun i => atD (plG i) (gloI l i)) (ln qaf l - i) i) :=
 qci (RunsP.tree E_V10_ok (verify_globals_L0_t _ _ _ _) (by
  rw [Nat.sub_self]
  simp only [sQ, sL,  Nat.lt_irrefl]
  rfl))
  fun i hi ih => RunsP.tree E_V10_ok (verify_globals_L0_t _ _ _ _) (by
   have hgo := ok_gd hx hi
   have hh : ∀ hk : ln I (gd qaf l i).2.2.2.1 < 9223372036854775807, PanD E_V10 (qck l (ln qaf l : Nat) i (gd qaf l i).2.2.2.1 (ln I (gd qaf l i).2.2.2.1 : Nat) (0 : Nat) (namG l (i + 1)) (tOf (gd qaf l i).1) (z (gd qaf l i).2.1) (z (gd qaf l i).2.2.1) (gd qaf l i).2.2.2.1 (bOf (gd qaf l i).2.2.2.2.1) (plG i)) (orD (atD (plG i) (fitE (z (gd qaf l i).2.1) (gd qaf l i).2.2.2.1)) _) :=
    fun hk => verify_globals_l2 l i (namG l (i + 1)) (tOf (gd qaf l i).1) (z (gd qaf l i).2.1) (z (gd qaf l i).2.2.1) (gd qaf l i).2.2.2.1 (bOf (gd qaf l i).2.2.2.2.1) (plG i) _ hi (by omega) hk ih 0 (Nat.zero_le _)
   replace hh := hh (qbj hgo.2.2.2.1.1)
   rw [sub1 hi]
   simp only [sQ, sL,  hi, wrapS hi (show ln qaf l < 9223372036854775807 by omega), namG_ln (Nat.le_of_lt hi), namG_ap hi]
   have go : gloI l i = fitE (z (gd qaf l i).2.1) (gd qaf l i).2.2.2.1 → PanD E_V10 (qck l (ln qaf l : Nat) i (gd qaf l i).2.2.2.1 (ln I (gd qaf l i).2.2.2.1 : Nat) (0 : Nat) (namG l (i + 1)) (tOf (gd qaf l i).1) (z (gd qaf l i).2.1) (z (gd qaf l i).2.2.1) (gd qaf l i).2.2.2.1 (bOf (gd qaf l i).2.2.2.2.1) (plG i)) (qfh (fun i => atD (plG i) (gloI l i)) ((ln qaf l - (i + 1)) + 1) i) := by
    intro hg
    show PanD _ _ (orD (atD (plG i) (gloI l i)) _)
    rw [hg]
    exact hh
   refine ⟨fun h1 => thr_fd (p := plG i) (x := 6) (congrArg (atD (plG i)) (by simp only [gloI, h1, cond_true, cond_false])) rfl rfl, fun h1 => ⟨fun h2 => thr_fd (p := plG i) (x := 7) (congrArg (atD (plG i)) (by simp only [gloI, h1, h2, cond_true, cond_false])) rfl rfl, fun h2 => ⟨by unfold roomB; omega, fun _ => ⟨fun h3 => thr_fd (p := plG i) (x := 9) (congrArg (atD (plG i)) (by simp only [gloI, h1, h2, h3, cond_true, cond_false])) rfl rfl, fun h3 => ⟨fun h4 => ⟨fun h5 => thr_fd (p := plG i) (x := 10) (congrArg (atD (plG i)) (by simp only [gloI, h1, h2, h3, h4, h5, cond_true, cond_false])) rfl rfl, fun h5 => ⟨fun h6 => thr_fd (p := plG i) (x := 5) (congrArg (atD (plG i)) (by simp only [gloI, h1, h2, h3, h4, h5, h6, cond_true, cond_false])) rfl rfl, fun h6 => ⟨fun h7 => go (by simp only [gloI, h1, h2, h3, h4, h5, h6, h7, cond_true, cond_false]), fun h7 => ⟨fun h8 => thr_fd (p := plG i) (x := 9) (congrArg (atD (plG i)) (by simp only [gloI, h1, h2, h3, h4, h5, h6, h7, h8, cond_true, cond_false])) rfl rfl, fun h8 => go (by simp only [gloI, h1, h2, h3, h4, h5, h6, h7, h8, cond_true, cond_false])⟩⟩⟩⟩, fun h4 => thr_fd (p := plG i) (x := 10) (congrArg (atD (plG i)) (by simp only [gloI, h1, h2, h3, h4, cond_true, cond_false])) rfl rfl⟩⟩⟩⟩⟩)
def k_verify_globals : ConP := ⟨[.d (.sl 64 qaf)], fun x => True, fun x => errB (gloD x.1), fun x => ifD (gloD x.1)⟩
theorem m_verify_globals (l : List (Den qaf)) (h_l : okD (.sl 64 qaf) l) (hp : True) : RunsP E_V10 (start E_V10 qby [(.tv (.sl 64 qaf) l)]) (fun r_ h_ => r_ = .tup [] ∧ h_ = [] ∧ errB (gloD l) = false) (fun r_ => r_ = ifD (gloD l) ∧ errB (gloD l) = true) := .tree E_V10_ok (verify_globals_t l) (by
 simp only [sQ]
 refine ⟨fun h => ?_, fun h => ?_⟩
 ·unfold gloD
  rw [h]
  exact ⟨rfl, rfl⟩
 ·unfold gloD
  rw [h]
  exact verify_globals_l0 l (by simpa using h) h_l 0 (Nat.zero_le _))
theorem c_verify_globals : qal E_V10 qby k_verify_globals.spec := spec_ofP fun x hx hp => ⟨rfl, m_verify_globals x.1 hx.1 hp⟩
def L_V10 : List (FuncId × FSpec) := [(qby, k_verify_globals.spec)] ++ L_V9
theorem L_V10_ok : ∀ x ∈ L_V10, qal (ctx []) x.1 x.2 := by
 unfold L_V10
 simp only [List.cons_append, List.nil_append, List.forall_mem_cons]
 exact ⟨c_verify_globals, L_V9_ok⟩
end Burn.MM
namespace Burn.MM
open Go Go.BE Go.Proofs
set_option maxRecDepth 100000
set_option linter.unusedVariables false
set_option linter.unusedSimpArgs false
noncomputable abbrev E_V11 : Ctx := ctx L_V10
theorem E_V11_ok : EOK E_V11 := qch L_V10_ok
def cuts_V11 : CutL := [([], 30, 0, [2, 13, 14, 15], [(.t 2, .own 16 .str)], []),
 ([], 30, 2, [2, 4, 5, 13, 14, 15, 62, 63, 64], [], [])]
def rets_V11 : FuncId → List (Option Fx)
 | _ => []
def H_V11 : Hints := { cut := cutOf cuts_V11, ret := rets_V11 }
noncomputable def qcu (t13 : List (Den qaa)) (t14 : Int) (t15 : Int) (names : List (Den .str)) : Cfg := hcfg E_V11 qbe 0 [(2, (.osl 0 0 [] none)), (13, (.tv (.sl 96 qaa) t13)), (14, (vi t14)), (15, (vi t15))] [(0, ⟨(.arr 0 16 .str names), 0, [], false, none⟩)] 1
noncomputable def qcg (t13 : List (Den qaa)) (t14 : Int) (t15 : Int) (t62 : List (Den I)) (t63 : Int) (t64 : Int) (names : List (Den .str)) (f_0 : ByteArray) (f_1 : List (Den I)) (f_2 : Int) (f_3 : List (Den I)) (f_4 : List (Den qac)) (at_ : Den qak) : Cfg := hcfg E_V11 qbe 2 [(2, (.osl 0 0 [] none)), (4, (.ref 1 0)), (5, (.tref 2 2 [] (0 : Nat) [])), (13, (.tv (.sl 96 qaa) t13)), (14, (vi t14)), (15, (vi t15)), (62, (.tv (.sl 8 I) t62)), (63, (vi t63)), (64, (vi t64))] [(0, ⟨(.arr 0 16 .str names), 0, [], false, none⟩), (1, ⟨(.cells [(vs f_0), (.tv (.sl 8 I) f_1), (vi f_2), (.tv (.sl 8 I) f_3), (.tv (.sl 136 qac) f_4)]), 1, [], false, none⟩), (2, ⟨(.arr 0 32 qak ([at_] : List (Den qak))), 2, [], false, none⟩)] 3
theorem verify_signatures_t (l : List (Den qaa)) : run E_V11 H_V11 qbe 3000 (start E_V11 qbe [(.tv (.sl 96 qaa) l)]) = (cond (!(decide (((ln qaa l) : Int) ≤ (32 : Int)))) (pn (.val (.iface 91 (.agg #[.int .i64 (11 : Int), .int .i64 (2 : Int), .int .i64 (-1 : Int), .int .i64 (-1 : Int), .int .i64 (-1 : Int)])))) (hd (qcu l ((ln qaa l) : Int) (0 : Int) ([] : List (Den .str))))) := by kernel_rfl
theorem verify_signatures_L0_t (t13 : List (Den qaa)) (t14 : Int) (t15 : Int) (names : List (Den .str)) : run E_V11 H_V11 qbe 3000 (qcu t13 t14 t15 names) = (cond (decide (t15 < t14)) (.chk (0 ≤ t15 ∧ t15 < (ln qaa t13)) (.chk ((0 : Nat) < (1 : Nat)) (.chk ((0 : Nat) < (1 : Nat)) (.chk (True) (.know True (cond (!(identF (gd qaa t13 t15.toNat).1)) (pn (.val (.iface 91 (.agg #[.int .i64 (6 : Int), .int .i64 (2 : Int), .int .i64 t15, .int .i64 (-1 : Int), .int .i64 (-1 : Int)])))) (.chk ((0 : Nat) < (1 : Nat)) (.chk (True) (.know True (cond (!(!(hasS names (gd qaa t13 t15.toNat).1))) (pn (.val (.iface 91 (.agg #[.int .i64 (7 : Int), .int .i64 (2 : Int), .int .i64 t15, .int .i64 (-1 : Int), .int .i64 (-1 : Int)])))) (.chk (((ln .str names) + (1 : Nat)) * 16 ≤ roomB) (.chk ((0 : Nat) < (1 : Nat)) (cond ((z ((gd qaa t13 t15.toNat).2.2.1)) == (0 : Int)) (.chk ((0 : Nat) < (1 : Nat)) (cond (decide (((ln I ((gd qaa t13 t15.toNat).2.1)) : Int) ≤ (6 : Int))) (cond (!(decide (((ln I ((gd qaa t13 t15.toNat).2.2.2.1)) : Int) ≤ (4000 : Int)))) (pn (.val (.iface 91 (.agg #[.int .i64 (11 : Int), .int .i64 (2 : Int), .int .i64 t15, .int .i64 (-1 : Int), .int .i64 (-1 : Int)])))) (hd (qcg t13 t14 t15 ((gd qaa t13 t15.toNat).2.2.2.1) ((ln I ((gd qaa t13 t15.toNat).2.2.2.1)) : Int) (0 : Int) (ap .str names ([(gd qaa t13 t15.toNat).1] : List (Den .str))) (tOf ((gd qaa t13 t15.toNat).1)) ((gd qaa t13 t15.toNat).2.1) (z ((gd qaa t13 t15.toNat).2.2.1)) ((gd qaa t13 t15.toNat).2.2.2.1) ((gd qaa t13 t15.toNat).2.2.2.2.1) ((2 : Int), t15, (-1 : Int), (-1 : Int), ())))) (pn (.val (.iface 91 (.agg #[.int .i64 (11 : Int), .int .i64 (2 : Int), .int .i64 t15, .int .i64 (-1 : Int), .int .i64 (-1 : Int)])))))) (.chk (True) (.know True (cond (!(typP (gd qaa t13 t15.toNat).2.2.1)) (pn (.val (.iface 91 (.agg #[.int .i64 (9 : Int), .int .i64 (2 : Int), .int .i64 t15, .int .i64 (-1 : Int), .int .i64 (-1 : Int)])))) (.chk ((0 : Nat) < (1 : Nat)) (cond (decide (((ln I ((gd qaa t13 t15.toNat).2.1)) : Int) ≤ (6 : Int))) (cond (!(decide (((ln I ((gd qaa t13 t15.toNat).2.2.2.1)) : Int) ≤ (4000 : Int)))) (pn (.val (.iface 91 (.agg #[.int .i64 (11 : Int), .int .i64 (2 : Int), .int .i64 t15, .int .i64 (-1 : Int), .int .i64 (-1 : Int)])))) (hd (qcg t13 t14 t15 ((gd qaa t13 t15.toNat).2.2.2.1) ((ln I ((gd qaa t13 t15.toNat).2.2.2.1)) : Int) (0 : Int) (ap .str names ([(gd qaa t13 t15.toNat).1] : List (Den .str))) (tOf ((gd qaa t13 t15.toNat).1)) ((gd qaa t13 t15.toNat).2.1) (z ((gd qaa t13 t15.toNat).2.2.1)) ((gd qaa t13 t15.toNat).2.2.2.1) ((gd qaa t13 t15.toNat).2.2.2.2.1) ((2 : Int), t15, (-1 : Int), (-1 : Int), ())))) (pn (.val (.iface 91 (.agg #[.int .i64 (11 : Int), .int .i64 (2 : Int), .int .i64 t15, .int .i64 (-1 : Int), .int .i64 (-1 : Int)])))))))))))))))))))))) (rt (.tup []) [])) := by kernel_rfl
theorem verify_signatures_L2_t (t13 : List (Den qaa)) (t14 : Int) (t15 : Int) (t62 : List (Den I)) (t63 : Int) (t64 : Int) (names : List (Den .str)) (f_0 : ByteArray) (f_1 : List (Den I)) (f_2 : Int) (f_3 : List (Den I)) (f_4 : List (Den qac)) (at_ : Den qak) : run E_V11 H_V11 qbe 3000 (qcg t13 t14 t15 t62 t63 t64 names f_0 f_1 f_2 f_3 f_4 at_) = (cond (decide (t64 < t63)) (.chk (0 ≤ t64 ∧ t64 < (ln I t62)) (.chk ((0 : Nat) < (1 : Nat)) (.chk (True) (.know True (cond (!(typP (gd I t62 t64.toNat))) (pn (.val (.iface 91 (.agg #[.int .i64 (9 : Int), .int .i64 (z at_.1), .int .i64 (z at_.2.1), .int .i64 (z at_.2.2.1), .int .i64 (z at_.2.2.2.1)])))) (hd (qcg t13 t14 t15 t62 t63 (IntKind.wrap .i64 (t64 + (1 : Int))) names f_0 f_1 f_2 f_3 f_4 at_))))))) (.chk ((0 : Nat) < (1 : Nat)) (.chk (True) (cond (errB (parF at_ (f_0, f_1, f_2, f_3, f_4, ()) f_1)) (pn (ifD (parF at_ (f_0, f_1, f_2, f_3, f_4, ()) f_1))) (hd (qcu t13 t14 (IntKind.wrap .i64 (t15 + (1 : Int))) names)))))) := by kernel_rfl
def Thr (d : Dg) (r : AV) : Prop := r = ifD d ∧ errB d = true
def Don (d : Dg) (r : AV) (h : Heap) : Prop := r = .tup [] ∧ h = [] ∧ errB d = false
def IsI (e : Int) (r : AV) (h : Heap) : Prop := r = vi e ∧ h = []
def RunD (E : Ctx) (c : Cfg) (d : Dg) : Prop := RunsP E c (Don d) (Thr d)
def RunI (E : Ctx) (c : Cfg) (e : Int) : Prop := Runs E c (IsI e)
theorem RunD.cast {E : Ctx} {c : Cfg} {d d' : Dg} (h : RunD E c d) (e : d' = d) : RunD E c d' := e ▸ h
theorem RunI.cast {E : Ctx} {c : Cfg} {d d' : Int} (h : RunI E c d) (e : d' = d) : RunI E c d' := e ▸ h
theorem Thr.at {d : Dg} {p : Plc} {x : Int} {r : AV} (hr : r = ifD (atD p x)) (h : d = atD p x) (hx : (x == 0) = false) : Thr d r := ⟨by rw [h]; exact hr, by rw [h, errAt, hx]; rfl⟩
theorem Thr.fd {D : Nat → Dg} {n i : Nat} {p : Plc} {x : Int} {r : AV} (hr : r = ifD (atD p x)) (h : D i = atD p x) (hx : (x == 0) = false) : Thr (qfh D (n + 1) i) r := by
 have he : errB (D i) = true := by rw [h, errAt, hx]; rfl
 rw [qfh, or_hit he]
 exact .at hr h hx
theorem Thr.or {a b : Dg} {r : AV} (h : Thr a r) : Thr (orD a b) r := by rw [or_hit h.2]; exact h
theorem Thr.fe {e : Nat → Int} {n i : Nat} {p : Plc} {x : Int} {r : AV} (hr : r = ifD (atD p x)) (h : e i = x) (hx : (x == 0) = false) : Thr (atD p (qas e (n + 1) i)) r := by
 rw [first_hit (by rw [h]; simpa using hx)]
 exact .at hr (by rw [h]) hx
theorem IsI.fe {e : Nat → Int} {n i : Nat} {x : Int} (h : e i = x) (hx : (x == 0) = false) : IsI (qas e (n + 1) i) (vi x) [] := by
 rw [first_hit (by rw [h]; simpa using hx), h]
 exact ⟨rfl, rfl⟩
theorem RunI.fe {E : Ctx} {c : Cfg} {e : Nat → Int} {n i : Nat} (ih : RunI E c (qas e n (i + 1))) (h : e i = 0) : RunI E c (qas e (n + 1) i) := by rw [first_miss h]; exact ih
theorem RunD.fe {E : Ctx} {c : Cfg} {e : Nat → Int} {n i : Nat} {p : Plc} {d : Dg} (ih : RunD E c (orD (atD p (qas e n (i + 1))) d)) (h : e i = 0) : RunD E c (orD (atD p (qas e (n + 1) i)) d) := by rw [first_miss h]; exact ih
def orE (a b : Int) : Int := cond (a == 0) b a
theorem or_at {p : Plc} {a b : Int} {d : Dg} : orD (atD p (orE a b)) d = orD (atD p a) (orD (atD p b) d) := by
 unfold orE
 cases h : a == 0
 ·rw [cond_false, or_hit (a := atD p a) (by rw [errAt, h]; rfl), or_hit (a := atD p a) (by rw [errAt, h]; rfl)]
 ·rw [cond_true, qer (a := atD p a) (by rw [errAt, h]; rfl)]
def tyI (l : List (Den I)) (k : Nat) : Int := cond (!(typP (gd I l k))) 9 0
def tyE (l : List (Den I)) : Int := qas (tyI l) (ln I l) 0
def namF (l : List Fn) (i : Nat) : List (Den .str) := (l.take i).map fun g => g.1
theorem namF_ln {l : List Fn} {i : Nat} (h : i ≤ ln qaa l) : ln .str (namF l i) = i := by
 show ((l.take i).map _).length = i
 rw [List.length_map, List.length_take]
 exact Nat.min_eq_left h
theorem namF_ap {l : List Fn} {i : Nat} (h : i < ln qaa l) : ap .str (namF l i) ([(gd qaa l i).1] : List (Den .str)) = namF l (i + 1) := by
 show (l.take i).map _ ++ [_] = (l.take (i + 1)).map _
 rw [List.take_succ_eq_append_getElem h, List.map_append]
 refine congrArg (fun x => _ ++ [x]) ?_
 have hq : l[i]? = some l[i] := List.getElem?_eq_getElem h
 simp [gd, hq]
def sigV (f : Fn) : Int := orE (tyE f.2.2.2.1) (parE f f.2.1)
def sigU (f : Fn) : Int := cond (decide ((ln I f.2.1 : Int) ≤ (6 : Int))) (cond (!(decide ((ln I f.2.2.2.1 : Int) ≤ (4000 : Int)))) 11 (sigV f)) 11
def sigT (f : Fn) : Int := cond (z f.2.2.1 == (0 : Int)) (sigU f) (cond (!(typP f.2.2.1)) 9 (sigU f))
def sigI (l : List Fn) (i : Nat) : Int := cond (!(identF (gd qaa l i).1)) 6 (cond (!(!(hasS (namF l i) (gd qaa l i).1))) 7 (sigT (gd qaa l i)))
def plF (i : Nat) : Plc := ((2 : Int), (i : Int), (-1 : Int), (-1 : Int), ())
def sigD (l : List Fn) : Dg := cond (!(decide ((ln qaa l : Int) ≤ 32))) (atD ((2 : Int), (-1 : Int), (-1 : Int), (-1 : Int), ()) 11) (qfh (fun i => atD (plF i) (sigI l i)) (ln qaa l) 0)
theorem verify_signatures_l2 (l : List Fn) (i : Nat) (nm : List (Den .str)) (f : Fn) (p : Plc) (d : Dg) (hi : i < ln qaa l) (hl : ln qaa l < 9223372036854775807) (h3 : ln I f.2.2.2.1 < 9223372036854775807)
  (ih : RunD E_V11 (qcu l (ln qaa l : Nat) (i + 1 : Nat) nm) d) : ∀ k, k ≤ ln I f.2.2.2.1 → RunD E_V11 (qcg l (ln qaa l : Nat) i f.2.2.2.1 (ln I f.2.2.2.1 : Nat) k nm (tOf f.1) f.2.1 (z f.2.2.1) f.2.2.2.1 f.2.2.2.2.1 p) (orD (atD p (qas (tyI f.2.2.2.1) (ln I f.2.2.2.1 - k) k)) (orD (parF p f f.2.1) d)) :=
 qci (RunsP.tree E_V11_ok (verify_signatures_L2_t _ _ _ _ _ _ _ _ _ _ _ _ _) (by
  rw [Nat.sub_self, qas, qer at_zero]
  simp only [sQ, sL,  Nat.lt_irrefl, wrapS hi hl]
  refine ⟨fun h => Thr.or ⟨rfl, h⟩, fun h => ih.cast (qer h)⟩))
  fun k hk ihk => RunsP.tree E_V11_ok (verify_signatures_L2_t _ _ _ _ _ _ _ _ _ _ _ _ _) (by
   rw [sub1 hk]
   simp only [sQ, sL,  hk, wrapS hk h3]
   exact ⟨fun h1 => .or (.fe (x := 9) rfl (by simp only [tyI, h1, cond_true]) rfl), fun h1 => RunD.fe ihk (by simp only [tyI, h1, cond_false])⟩)
theorem verify_signatures_l0 (l : List Fn) (h32 : (ln qaa l : Int) ≤ 32) (hx : okD (.sl 96 qaa) l) : ∀ i, i ≤ ln qaa l → RunD E_V11 (qcu l (ln qaa l : Nat) i (namF l i)) (qfh (fun i => atD (plF i) (sigI l i)) (ln qaa l - i) i) :=
 qci (RunsP.tree E_V11_ok (verify_signatures_L0_t _ _ _ _) (by
  rw [Nat.sub_self]
  simp only [sQ, sL,  Nat.lt_irrefl]
  exact ⟨rfl, rfl, rfl⟩))
  fun i hi ih => RunsP.tree E_V11_ok (verify_signatures_L0_t _ _ _ _) (by
   have hgo := ok_gd hx hi
   have go := fun hk => verify_signatures_l2 l i (namF l (i + 1)) (gd qaa l i) (plF i) _ hi (by omega) hk ih 0 (Nat.zero_le _)
   replace go := go (qbj hgo.2.2.2.1.1)
   rw [sub1 hi]
   simp only [sQ, sL,  hi, wrapS hi (show ln qaa l < 9223372036854775807 by omega), namF_ln (Nat.le_of_lt hi), namF_ap hi]
   have go' : sigI l i = sigV (gd qaa l i) → RunD E_V11 (qcg l (ln qaa l : Nat) i (gd qaa l i).2.2.2.1 (ln I (gd qaa l i).2.2.2.1 : Nat) (0 : Nat) (namF l (i + 1)) (tOf (gd qaa l i).1) (gd qaa l i).2.1 (z (gd qaa l i).2.2.1) (gd qaa l i).2.2.2.1 (gd qaa l i).2.2.2.2.1 (plF i)) (qfh (fun i => atD (plF i) (sigI l i)) ((ln qaa l - (i + 1)) + 1) i) := by
    intro hg
    refine go.cast ?_
    show orD (atD (plF i) (sigI l i)) _ = _
    rw [hg, sigV, or_at]
    rfl
   refine ⟨fun h1 => .fd (p := plF i) (x := 6) rfl (congrArg (atD (plF i)) (by simp only [sigI, h1, cond_true])) rfl, fun h1 => ⟨fun h2 => .fd (p := plF i) (x := 7) rfl (congrArg (atD (plF i)) (by simp only [sigI, h1, h2, cond_true, cond_false])) rfl, fun h2 => ⟨by unfold roomB; omega, fun _ => ⟨fun h3 => ⟨fun h4 => ⟨fun h5 => .fd (p := plF i) (x := 11) rfl (congrArg (atD (plF i)) (by simp only [sigI, sigT, sigU, h1, h2, h3, h4, h5, cond_true, cond_false])) rfl, fun h5 => go' (by simp only [sigI, sigT, sigU, h1, h2, h3, h4, h5, cond_true, cond_false])⟩, fun h4 => .fd (p := plF i) (x := 11) rfl (congrArg (atD (plF i)) (by simp only [sigI, sigT, sigU, h1, h2, h3, h4, cond_true, cond_false])) rfl⟩, fun h3 => ⟨fun h6 => .fd (p := plF i) (x := 9) rfl (congrArg (atD (plF i)) (by simp only [sigI, sigT, sigU, h1, h2, h3, h6, cond_true, cond_false])) rfl, fun h6 => ⟨fun h4 => ⟨fun h5 => .fd (p := plF i) (x := 11) rfl (congrArg (atD (plF i)) (by simp only [sigI, sigT, sigU, h1, h2, h3, h4, h5, h6, cond_true, cond_false])) rfl, fun h5 => go' (by simp only [sigI, sigT, sigU, h1, h2, h3, h4, h5, h6, cond_true, cond_false])⟩, fun h4 => .fd (p := plF i) (x := 11) rfl (congrArg (atD (plF i)) (by simp only [sigI, sigT, sigU, h1, h2, h3, h4, h6, cond_true, cond_false])) rfl⟩⟩⟩⟩⟩⟩)
def k_verify_signatures : ConP := ⟨[.d (.sl 96 qaa)], fun x => True, fun x => errB (sigD x.1), fun x => ifD (sigD x.1)⟩
theorem m_verify_signatures (l : List (Den qaa)) (h_l : okD (.sl 96 qaa) l) (hp : True) : RunsP E_V11 (start E_V11 qbe [(.tv (.sl 96 qaa) l)]) (fun r_ h_ => r_ = .tup [] ∧ h_ = [] ∧ errB (sigD l) = false) (fun r_ => r_ = ifD (sigD l) ∧ errB (sigD l) = true) := .tree E_V11_ok (verify_signatures_t l) (by
 simp only [sQ]
 refine ⟨fun h => ?_, fun h => ?_⟩
 ·unfold sigD
  rw [h]
  exact ⟨rfl, rfl⟩
 ·unfold sigD
  rw [h]
  exact verify_signatures_l0 l (by simpa using h) h_l 0 (Nat.zero_le _))
theorem c_verify_signatures : qal E_V11 qbe k_verify_signatures.spec := spec_ofP fun x hx hp => ⟨rfl, m_verify_signatures x.1 hx.1 hp⟩
def L_V11 : List (FuncId × FSpec) := [(qbe, k_verify_signatures.spec)] ++ L_V10
theorem L_V11_ok : ∀ x ∈ L_V11, qal (ctx []) x.1 x.2 := by
 unfold L_V11
 simp only [List.cons_append, List.nil_append, List.forall_mem_cons]
 exact ⟨c_verify_signatures, L_V10_ok⟩
end Burn.MM
namespace Burn.MM
open Go Go.BE Go.Proofs
set_option maxRecDepth 100000
set_option linter.unusedVariables false
set_option linter.unusedSimpArgs false
open Burn.Intn Burn.Ref
noncomputable abbrev E_V12 : Ctx := ctx L_V11
theorem E_V12_ok : EOK E_V12 := qch L_V11_ok
def cuts_V12 : CutL := [([], 82, 0, [1, 7, 8, 9], [], []),
 ([], 86, 0, [1, 3, 7, 17, 18, 19], [], [])]
def rets_V12 : FuncId → List (Option Fx)
 | _ => []
def H_V12 : Hints := { cut := cutOf cuts_V12, ret := rets_V12 }
theorem opcode_count_t (in_ : Den qad) (m : Den qah) : run E_V12 H_V12 qgp 3000 (start E_V12 qgp [(.tv qad in_), (.tv qah m)]) = (.chk (True) (.chk (0 ≤ (IntKind.wrap .i64 ((z in_.1) - (1 : Int))) ∧ (IntKind.wrap .i64 ((z in_.1) - (1 : Int))) < (ln qao (rowsP))) (.know (okD (.sl 24 qao) (rowsP)) (cond ((z in_.1) == (30 : Int)) (.chk (0 ≤ (z in_.2.2.2.2.2.1) ∧ (z in_.2.2.2.2.2.1) < (ln qaa m.2.1)) (cond (((ln I in_.2.2.2.1) : Int) != ((ln I ((gd qaa m.2.1 (((z in_.2.2.2.2.2.1)).toNat)).2.1)) : Int)) (rt (vi (3 : Int)) []) (rt (vi (0 : Int)) []))) (cond ((z in_.1) == (32 : Int)) (cond (((ln I in_.2.2.2.1) : Int) == (4 : Int)) (cond (((ln I in_.2.2.2.1) : Int) != (4 : Int)) (rt (vi (3 : Int)) []) (rt (vi (0 : Int)) [])) (cond (((ln I in_.2.2.2.1) : Int) != (2 : Int)) (rt (vi (3 : Int)) []) (rt (vi (0 : Int)) []))) (cond (((ln I in_.2.2.2.1) : Int) != (z ((gd qao (rowsP) (((IntKind.wrap .i64 ((z in_.1) - (1 : Int)))).toNat)).2.1))) (rt (vi (3 : Int)) []) (rt (vi (0 : Int)) []))))))) := by kernel_rfl
theorem opcode_result_t (in_ : Den qad) (f : Den qaa) : run E_V12 H_V12 qfm 3000 (start E_V12 qfm [(.tv qad in_), (.tv qaa f)]) = (cond ((z in_.2.1) == (0 : Int)) (rt (vb ((z in_.2.2.1) == (-1 : Int))) []) (cond ((z in_.2.2.1) == (-1 : Int)) (rt (vb ((z in_.1) == (30 : Int))) []) (.chk (0 ≤ (z in_.2.2.1) ∧ (z in_.2.2.1) < (ln I f.2.2.2.1)) (rt (vb ((z (gd I f.2.2.2.1 (((z in_.2.2.1)).toNat))) == (z in_.2.1))) [])))) := by kernel_rfl
theorem opcode_immediate_t (in_ : Den qad) (args : List (Den I)) : run E_V12 H_V12 qdg 3000 (start E_V12 qdg [(.tv qad in_), (.tv (.sl 8 I) args)]) = (cond ((z in_.1) == (26 : Int)) (.chk (True) (.know (okAVs [(vi (z ((accP in_.2.2.2.2.2.2.1).1))), (vi (z ((accP in_.2.2.2.2.2.2.1).2)))]) (cond ((z ((accP in_.2.2.2.2.2.2.1).2)) != (1 : Int)) (rt (vi (9 : Int)) []) (cond ((z ((accP in_.2.2.2.2.2.2.1).1)) != (z in_.2.2.2.2.2.2.1)) (rt (vi (9 : Int)) []) (cond (decide ((z in_.2.2.2.2.1) ≥ (1 : Int))) (cond (!(decide ((z in_.2.2.2.2.1) ≤ (256 : Int)))) (rt (vi (10 : Int)) []) (rt (vi (0 : Int)) [])) (rt (vi (10 : Int)) [])))))) (cond ((z in_.1) == (1 : Int)) (.chk (True) (.know (okD (.int .i64) (wrapZ in_.2.1 in_.2.2.2.2.1)) (cond (!((wrapZ in_.2.1 in_.2.2.2.2.1) == (z in_.2.2.2.2.1))) (rt (vi (10 : Int)) []) (rt (vi (0 : Int)) [])))) (cond ((z in_.1) == (33 : Int)) (.chk (0 ≤ (0 : Int) ∧ (0 : Int) < (ln I args)) (.chk (True) (.know (okAVs [(vi (z ((accP (gd I args (0 : Nat))).1))), (vi (z ((accP (gd I args (0 : Nat))).2)))]) (cond (decide ((z in_.2.2.2.2.1) ≥ (0 : Int))) (cond (!(decide ((z in_.2.2.2.2.1) < (z ((accP (gd I args (0 : Nat))).2))))) (rt (vi (10 : Int)) []) (rt (vi (0 : Int)) [])) (rt (vi (10 : Int)) []))))) (rt (vi (0 : Int)) [])))) := by kernel_rfl
noncomputable def opcode_same_L0 (t : Int) (t7 : List (Den I)) (t8 : Int) (t9 : Int) : Cfg := hcfg E_V12 qed 0 [(1, (vi t)), (7, (.tv (.sl 8 I) t7)), (8, (vi t8)), (9, (vi t9))] [] 0
theorem opcode_same_t (args : List (Den I)) (t : Int) : run E_V12 H_V12 qed 3000 (start E_V12 qed [(.tv (.sl 8 I) args), (vi t)]) = (hd (opcode_same_L0 t args ((ln I args) : Int) (0 : Int))) := by kernel_rfl
theorem opcode_same_L0_t (t : Int) (t7 : List (Den I)) (t8 : Int) (t9 : Int) : run E_V12 H_V12 qed 3000 (opcode_same_L0 t t7 t8 t9) = (cond (decide (t9 < t8)) (.chk (0 ≤ t9 ∧ t9 < (ln I t7)) (cond ((z (gd I t7 t9.toNat)) != t) (rt (vb false) []) (hd (opcode_same_L0 t t7 t8 (IntKind.wrap .i64 (t9 + (1 : Int))))))) (rt (vb true) [])) := by kernel_rfl
noncomputable def qgu (args : List (Den I)) (in_ : Den qad) (t17 : List (Den I)) (t18 : Int) (t19 : Int) (f_0 : ByteArray) (f_1 : List (Den I)) (f_2 : Int) (f_3 : List (Den I)) (f_4 : List (Den qac)) : Cfg := hcfg E_V12 qdb 0 [(1, (.tv (.sl 8 I) args)), (3, (.rtp qad in_)), (7, (.ref 0 0)), (17, (.tv (.sl 8 I) t17)), (18, (vi t18)), (19, (vi t19))] [(0, ⟨(.cells [(vs f_0), (.tv (.sl 8 I) f_1), (vi f_2), (.tv (.sl 8 I) f_3), (.tv (.sl 136 qac) f_4)]), 0, [], false, none⟩)] 1
theorem opcode_callee_t (in_ : Den qad) (args : List (Den I)) (m : Den qah) : run E_V12 H_V12 qdb 3000 (start E_V12 qdb [(.tv qad in_), (.tv (.sl 8 I) args), (.tv qah m)]) = (.chk (0 ≤ (z in_.2.2.2.2.2.1) ∧ (z in_.2.2.2.2.2.1) < (ln qaa m.2.1)) (hd (qgu args in_ ((gd qaa m.2.1 (((z in_.2.2.2.2.2.1)).toNat)).2.1) ((ln I ((gd qaa m.2.1 (((z in_.2.2.2.2.2.1)).toNat)).2.1)) : Int) (0 : Int) (tOf ((gd qaa m.2.1 (((z in_.2.2.2.2.2.1)).toNat)).1)) ((gd qaa m.2.1 (((z in_.2.2.2.2.2.1)).toNat)).2.1) (z ((gd qaa m.2.1 (((z in_.2.2.2.2.2.1)).toNat)).2.2.1)) ((gd qaa m.2.1 (((z in_.2.2.2.2.2.1)).toNat)).2.2.2.1) ((gd qaa m.2.1 (((z in_.2.2.2.2.2.1)).toNat)).2.2.2.2.1)))) := by kernel_rfl
theorem opcode_callee_L0_t (args : List (Den I)) (in_ : Den qad) (t17 : List (Den I)) (t18 : Int) (t19 : Int) (f_0 : ByteArray) (f_1 : List (Den I)) (f_2 : Int) (f_3 : List (Den I)) (f_4 : List (Den qac)) : run E_V12 H_V12 qdb 3000 (qgu args in_ t17 t18 t19 f_0 f_1 f_2 f_3 f_4) = (cond (decide (t19 < t18)) (.chk (0 ≤ t19 ∧ t19 < (ln I t17)) (cond (decide ((z (gd I t17 t19.toNat)) < (0 : Int))) (rt (vb false) []) (cond (decide ((z (gd I t17 t19.toNat)) ≥ ((ln I f_3) : Int))) (rt (vb false) []) (.chk (0 ≤ (z (gd I t17 t19.toNat)) ∧ (z (gd I t17 t19.toNat)) < (ln I f_3)) (.chk (0 ≤ t19 ∧ t19 < (ln I args)) (cond ((z (gd I f_3 (((z (gd I t17 t19.toNat))).toNat))) != (z (gd I args t19.toNat))) (rt (vb false) []) (hd (qgu args in_ t17 t18 (IntKind.wrap .i64 (t19 + (1 : Int))) f_0 f_1 f_2 f_3 f_4)))))))) (rt (vb ((z in_.2.1) == f_2)) [])) := by kernel_rfl
def symOK (x : Ins) (m : Md) : Prop := (z x.1 = 25 → 0 ≤ z x.2.2.2.2.2.1 ∧ z x.2.2.2.2.2.1 < (ln qaf m.1 : Nat)) ∧ (z x.1 = 30 → 0 ≤ z x.2.2.2.2.2.1 ∧ z x.2.2.2.2.2.1 < (ln qaa m.2.1 : Nat))
theorem name_room' {op : Int} (h : 1 ≤ op ∧ op ≤ 33) : 0 ≤ IntKind.wrap .i64 (op - 1) ∧ IntKind.wrap .i64 (op - 1) < (ln qao rowsP : Nat) := name_room (by omega) (by rw [show ln qao rowsP = 33 from rfl]; omega)
def samF : List (Den I) → Int → Bool
 | [], _ => true
 | y :: l, t => cond (z y != t) false (samF l t)
def calN (g : Fn) (args : List (Den I)) (t : Int) : Nat → Nat → Bool
 | 0, _ => t == z g.2.2.1
 | n + 1, i => cond (decide (z (gd I g.2.1 i) < (0 : Int))) false (cond (decide (z (gd I g.2.1 i) ≥ (ln I g.2.2.2.1 : Int))) false (cond (z (gd I g.2.2.2.1 (z (gd I g.2.1 i)).toNat) != z (gd I args i)) false (calN g args t n (i + 1))))
def calF (x : Ins) (args : List (Den I)) (m : Md) : Bool := calN (gd qaa m.2.1 (z x.2.2.2.2.2.1).toNat) args (z x.2.1) (ln I (gd qaa m.2.1 (z x.2.2.2.2.2.1).toNat).2.1) 0
def cntP (in_ : Den qad) (m : Den qah) : Int := (cond ((z in_.1) == (30 : Int)) (cond (((ln I in_.2.2.2.1) : Int) != ((ln I ((gd qaa m.2.1 (((z in_.2.2.2.2.2.1)).toNat)).2.1)) : Int)) (3 : Int) (0 : Int)) (cond ((z in_.1) == (32 : Int)) (cond (((ln I in_.2.2.2.1) : Int) == (4 : Int)) (cond (((ln I in_.2.2.2.1) : Int) != (4 : Int)) (3 : Int) (0 : Int)) (cond (((ln I in_.2.2.2.1) : Int) != (2 : Int)) (3 : Int) (0 : Int))) (cond (((ln I in_.2.2.2.1) : Int) != (z ((gd qao (rowsP) (((IntKind.wrap .i64 ((z in_.1) - (1 : Int)))).toNat)).2.1))) (3 : Int) (0 : Int))))

def k_opcode_count : Con := con [.d qad, .d qah] I (fun x => (1 ≤ z x.1.1 ∧ z x.1.1 ≤ 33) ∧ symOK x.1 x.2.1) fun x => cntP x.1 x.2.1
theorem m_opcode_count (in_ : Den qad) (m : Den qah) (h_in_ : okD qad in_) (h_m : okD qah m) (hp : (1 ≤ z in_.1 ∧ z in_.1 ≤ 33) ∧ symOK in_ m) : Runs E_V12 (start E_V12 qgp [(.tv qad in_), (.tv qah m)]) (fun r_ h_ => r_ = (vi (cntP in_ m)) ∧ h_ = []) := .tree E_V12_ok (opcode_count_t in_ m) (by
 have hp_ := hp
 try simp only [z] at hp_
 show Tre.wp (Qv _ (fun x_ => (vi x_)) (cntP in_ m)) _
 unfold cntP
 refine ⟨trivial, fun _ => ?_⟩
 refine ⟨by first | omega | exact (name_room' hp.1) | (have g_ := name_room' hp.1; omega) | exact (hp.2.2 (by assumption)) | (have g_ := hp.2.2 (by assumption); omega) | assumption | exact hp.1 | exact hp.2 | exact hp.2.1 | (simp_all; done) | (simp_all; omega), fun _ => ?_⟩
 refine fun _ => ?_
 refine qag (fun h1 => ?_) (fun h1 => ?_)
 ·have h1_ := beq_t h1
  refine ⟨by first | omega | exact (name_room' hp.1) | (have g_ := name_room' hp.1; omega) | exact (hp.2.2 (by assumption)) | (have g_ := hp.2.2 (by assumption); omega) | assumption | exact hp.1 | exact hp.2 | exact hp.2.1 | (simp_all; done) | (simp_all; omega), fun _ => ?_⟩
  refine qag (fun h2 => ⟨rfl, rfl⟩) (fun h2 => ?_)
  exact ⟨rfl, rfl⟩
 ·refine qag (fun h3 => ?_) (fun h3 => ?_)
  ·refine qag (fun h4 => ?_) (fun h4 => ?_)
   ·refine qag (fun h5 => ⟨rfl, rfl⟩) (fun h5 => ?_)
    exact ⟨rfl, rfl⟩
   ·refine qag (fun h6 => ⟨rfl, rfl⟩) (fun h6 => ?_)
    exact ⟨rfl, rfl⟩
  ·refine qag (fun h7 => ⟨rfl, rfl⟩) (fun h7 => ?_)
   exact ⟨rfl, rfl⟩)
theorem c_opcode_count : qal E_V12 qgp k_opcode_count.spec := qan fun x hx hp => ⟨rfl, m_opcode_count x.1 x.2.1 hx.1 hx.2.1 hp⟩
def resP (in_ : Den qad) (f : Den qaa) : Bool := (cond ((z in_.2.1) == (0 : Int)) ((z in_.2.2.1) == (-1 : Int)) (cond ((z in_.2.2.1) == (-1 : Int)) ((z in_.1) == (30 : Int)) ((z (gd I f.2.2.2.1 (((z in_.2.2.1)).toNat))) == (z in_.2.1))))

def k_opcode_result : Con := con [.d qad, .d qaa] .bool (fun x => -1 ≤ z x.1.2.2.1 ∧ z x.1.2.2.1 < (ln I x.2.1.2.2.2.1 : Nat)) fun x => resP x.1 x.2.1
theorem m_opcode_result (in_ : Den qad) (f : Den qaa) (h_in_ : okD qad in_) (h_f : okD qaa f) (hp : -1 ≤ z in_.2.2.1 ∧ z in_.2.2.1 < (ln I f.2.2.2.1 : Nat)) : Runs E_V12 (start E_V12 qfm [(.tv qad in_), (.tv qaa f)]) (fun r_ h_ => r_ = (vb (resP in_ f)) ∧ h_ = []) := .tree E_V12_ok (opcode_result_t in_ f) (by
 have hp_ := hp
 try simp only [z] at hp_
 show Tre.wp (Qv _ (fun x_ => (vb x_)) (resP in_ f)) _
 unfold resP
 refine qag (fun h1 => ⟨rfl, rfl⟩) (fun h1 => ?_)
 have h1_ := beq_f h1
 refine qag (fun h2 => ⟨rfl, rfl⟩) (fun h2 => ?_)
 have h2_ := beq_f h2
 refine ⟨by first | omega | assumption | exact hp.1 | exact hp.2 | exact hp.2.1 | (simp_all; done) | (simp_all; omega), fun _ => ?_⟩
 exact ⟨rfl, rfl⟩)
theorem c_opcode_result : qal E_V12 qfm k_opcode_result.spec := qan fun x hx hp => ⟨rfl, m_opcode_result x.1 x.2.1 hx.1 hx.2.1 hp⟩
def immP (in_ : Den qad) (args : List (Den I)) : Int := (cond ((z in_.1) == (26 : Int)) (cond ((z ((accP in_.2.2.2.2.2.2.1).2)) != (1 : Int)) (9 : Int) (cond ((z ((accP in_.2.2.2.2.2.2.1).1)) != (z in_.2.2.2.2.2.2.1)) (9 : Int) (cond (decide ((z in_.2.2.2.2.1) ≥ (1 : Int))) (cond (!(decide ((z in_.2.2.2.2.1) ≤ (256 : Int)))) (10 : Int) (0 : Int)) (10 : Int)))) (cond ((z in_.1) == (1 : Int)) (cond (!((wrapZ in_.2.1 in_.2.2.2.2.1) == (z in_.2.2.2.2.1))) (10 : Int) (0 : Int)) (cond ((z in_.1) == (33 : Int)) (cond (decide ((z in_.2.2.2.2.1) ≥ (0 : Int))) (cond (!(decide ((z in_.2.2.2.2.1) < (z ((accP (gd I args (0 : Nat))).2))))) (10 : Int) (0 : Int)) (10 : Int)) (0 : Int))))

def k_opcode_immediate : Con := con [.d qad, .d (.sl 8 I)] I (fun x => z x.1.1 = 33 → 0 < ln I x.2.1) fun x => immP x.1 x.2.1
theorem m_opcode_immediate (in_ : Den qad) (args : List (Den I)) (h_in_ : okD qad in_) (h_args : okD (.sl 8 I) args) (hp : z in_.1 = 33 → 0 < ln I args) : Runs E_V12 (start E_V12 qdg [(.tv qad in_), (.tv (.sl 8 I) args)]) (fun r_ h_ => r_ = (vi (immP in_ args)) ∧ h_ = []) := .tree E_V12_ok (opcode_immediate_t in_ args) (by
 have hp_ := hp
 try simp only [z] at hp_
 show Tre.wp (Qv _ (fun x_ => (vi x_)) (immP in_ args)) _
 unfold immP
 refine qag (fun h1 => ?_) (fun h1 => ?_)
 ·refine ⟨trivial, fun _ => ?_⟩
  refine fun _ => ?_
  refine qag (fun h2 => ⟨rfl, rfl⟩) (fun h2 => ?_)
  refine qag (fun h3 => ⟨rfl, rfl⟩) (fun h3 => ?_)
  refine qag (fun h4 => ?_) (fun h4 => ⟨rfl, rfl⟩)
  refine qag (fun h5 => ⟨rfl, rfl⟩) (fun h5 => ?_)
  exact ⟨rfl, rfl⟩
 ·have h1_ := beq_f h1
  refine qag (fun h6 => ?_) (fun h6 => ?_)
  ·refine ⟨trivial, fun _ => ?_⟩
   refine fun _ => ?_
   refine qag (fun h7 => ⟨rfl, rfl⟩) (fun h7 => ?_)
   exact ⟨rfl, rfl⟩
  ·have h6_ := beq_f h6
   refine qag (fun h8 => ?_) (fun h8 => ⟨rfl, rfl⟩)
   have h8_ := beq_t h8
   refine ⟨by first | omega | assumption | exact hp.1 | exact hp.2 | exact hp.2.1 | (simp_all; done) | (simp_all; omega), fun _ => ?_⟩
   refine ⟨trivial, fun _ => ?_⟩
   refine fun _ => ?_
   refine qag (fun h9 => ?_) (fun h9 => ⟨rfl, rfl⟩)
   refine qag (fun h10 => ⟨rfl, rfl⟩) (fun h10 => ?_)
   exact ⟨rfl, rfl⟩)
theorem c_opcode_immediate : qal E_V12 qdg k_opcode_immediate.spec := qan fun x hx hp => ⟨rfl, m_opcode_immediate x.1 x.2.1 hx.1 hx.2.1 hp⟩
theorem opcode_same_l (t : Int) (l : List (Den I)) (hl : ln I l < 9223372036854775807) : ∀ i, i ≤ ln I l → Runs E_V12 (opcode_same_L0 t l (ln I l : Nat) i) (fun r h => r = vb (samF (l.drop i) t) ∧ h = []) :=
 qci (.tree E_V12_ok (opcode_same_L0_t _ _ _ _) (by
  rw [drop_ln]
  simp only [sS, sL,  samF]))
  fun i hi ih => .tree E_V12_ok (opcode_same_L0_t _ _ _ _) (by
   rw [drop_gd (l := l) (i := i) hi]
   simp only [sS, sL,  hi, wrapS hi hl, samF]
   exact stop_step vb ih)
def k_opcode_same : Con := con [.d (.sl 8 I), .d I] .bool (fun x => True) fun x => samF x.1 x.2.1
theorem m_opcode_same (args : List (Den I)) (t : Int) (h_args : okD (.sl 8 I) args) (h_t : okD I t) (hp : True) : Runs E_V12 (start E_V12 qed [(.tv (.sl 8 I) args), (vi t)]) (fun r_ h_ => r_ = (vb (samF args t)) ∧ h_ = []) := .tree E_V12_ok (opcode_same_t args t) (by
 simp only [sS]
 exact opcode_same_l t args (qbj h_args.1) 0 (Nat.zero_le _))
theorem c_opcode_same : qal E_V12 qed k_opcode_same.spec := qan fun x hx hp => ⟨rfl, m_opcode_same x.1 x.2.1 hx.1 hx.2.1 hp⟩
theorem opcode_callee_l (x : Ins) (g : Fn) (args : List (Den I)) (hg : okD qaa g) (ha : ln I g.2.1 ≤ ln I args) : ∀ i, i ≤ ln I g.2.1 → Runs E_V12 (qgu args x g.2.1 (ln I g.2.1 : Nat) i (tOf g.1) g.2.1 (z g.2.2.1) g.2.2.2.1 g.2.2.2.2.1) (fun r h => r = vb (calN g args (z x.2.1) (ln I g.2.1 - i) i) ∧ h = []) :=
 qci (.tree E_V12_ok (opcode_callee_L0_t _ _ _ _ _ _ _ _ _ _) (by
  rw [Nat.sub_self]
  simp only [sS, sL,  calN]))
  fun i hi ih => .tree E_V12_ok (opcode_callee_L0_t _ _ _ _ _ _ _ _ _ _) (by
   rw [sub1 hi]
   simp only [sS, sL,  hi, wrapS hi (qbj hg.2.1.1), calN]
   refine ⟨fun h1 => by rw [h1]; rfl, fun h1 => ⟨fun h2 => by rw [h1, h2]; rfl, fun h2 => ⟨⟨by simpa using h1, by simpa using h2⟩, fun _ => ⟨by omega, fun _ => ⟨fun h3 => by rw [h1, h2, h3]; rfl, fun h3 => by rw [h1, h2, h3]; exact ih⟩⟩⟩⟩⟩)
def k_opcode_callee : Con := con [.d qad, .d (.sl 8 I), .d qah] .bool (fun x => (0 ≤ z x.1.2.2.2.2.2.1 ∧ z x.1.2.2.2.2.2.1 < (ln qaa x.2.2.1.2.1 : Nat)) ∧ ln I (gd qaa x.2.2.1.2.1 (z x.1.2.2.2.2.2.1).toNat).2.1 ≤ ln I x.2.1) fun x => calF x.1 x.2.1 x.2.2.1
theorem m_opcode_callee (in_ : Den qad) (args : List (Den I)) (m : Den qah) (h_in_ : okD qad in_) (h_args : okD (.sl 8 I) args) (h_m : okD qah m) (hp : (0 ≤ z in_.2.2.2.2.2.1 ∧ z in_.2.2.2.2.2.1 < (ln qaa m.2.1 : Nat)) ∧ ln I (gd qaa m.2.1 (z in_.2.2.2.2.2.1).toNat).2.1 ≤ ln I args) : Runs E_V12 (start E_V12 qdb [(.tv qad in_), (.tv (.sl 8 I) args), (.tv qah m)]) (fun r_ h_ => r_ = (vb (calF in_ args m)) ∧ h_ = []) := .tree E_V12_ok (opcode_callee_t in_ args m) (by
 have hs := hp.1
 simp only [sS]
 refine ⟨hs, fun _ => ?_⟩
 exact opcode_callee_l in_ (gd qaa m.2.1 (z in_.2.2.2.2.2.1).toNat) args (ok_gd h_m.2.1 (by omega)) hp.2 0 (Nat.zero_le _))
theorem c_opcode_callee : qal E_V12 qdb k_opcode_callee.spec := qan fun x hx hp => ⟨rfl, m_opcode_callee x.1 x.2.1 x.2.2.1 hx.1 hx.2.1 hx.2.2.1 hp⟩
def L_V12 : List (FuncId × FSpec) := [(qgp, k_opcode_count.spec), (qfm, k_opcode_result.spec), (qdg, k_opcode_immediate.spec), (qed, k_opcode_same.spec), (qdb, k_opcode_callee.spec)] ++ L_V11
theorem L_V12_ok : ∀ x ∈ L_V12, qal (ctx []) x.1 x.2 := by
 unfold L_V12
 simp only [List.cons_append, List.nil_append, List.forall_mem_cons]
 exact ⟨c_opcode_count, c_opcode_result, c_opcode_immediate, c_opcode_same, c_opcode_callee, L_V11_ok⟩
end Burn.MM
namespace Burn.MM
open Go Go.BE Go.Proofs
set_option maxRecDepth 100000
set_option linter.unusedVariables false
set_option linter.unusedSimpArgs false
open Burn.Intn Burn.Ref
noncomputable abbrev E_V13 : Ctx := ctx L_V12
theorem E_V13_ok : EOK E_V13 := qch L_V12_ok
def cuts_V13 : CutL := []
def rets_V13 : FuncId → List (Option Fx)
 | _ => []
def H_V13 : Hints := { cut := cutOf cuts_V13, ret := rets_V13 }
theorem opcode_typed_t (in_ : Den qad) (args : List (Den I)) (m : Den qah) : run E_V13 H_V13 qgn 3000 (start E_V13 qgn [(.tv qad in_), (.tv (.sl 8 I) args), (.tv qah m)]) = (cond ((z in_.1) == (1 : Int)) (.chk (True) (.know True (rt (vb (intP in_.2.1)) []))) (cond ((z in_.1) == (2 : Int)) (.chk (True) (.know True (rt (vb (typP in_.2.1)) []))) (cond ((z in_.1) == (3 : Int)) (.chk (True) (.know True (cond (typP in_.2.1) (cond ((z in_.2.1) != (5 : Int)) (.chk (True) (.know True (rt (vb (samF args in_.2.1)) []))) (rt (vb false) [])) (rt (vb false) [])))) (cond ((z in_.1) == (4 : Int)) (.chk (True) (.know True (cond (typP in_.2.1) (.chk (True) (.know True (rt (vb (samF args in_.2.1)) []))) (rt (vb false) [])))) (cond ((z in_.1) == (5 : Int)) (.chk (True) (.know True (cond (wideP in_.2.1) (.chk (True) (.know True (rt (vb (samF args in_.2.1)) []))) (.chk (True) (.know True (cond (vecP in_.2.1) (.chk (True) (.know True (rt (vb (samF args in_.2.1)) []))) (rt (vb false) []))))))) (cond ((z in_.1) == (6 : Int)) (.chk (True) (.know True (cond (wideP in_.2.1) (.chk (True) (.know True (rt (vb (samF args in_.2.1)) []))) (.chk (True) (.know True (cond (vecP in_.2.1) (.chk (True) (.know True (rt (vb (samF args in_.2.1)) []))) (rt (vb false) []))))))) (cond ((z in_.1) == (7 : Int)) (.chk (True) (.know True (cond (wideP in_.2.1) (.chk (True) (.know True (rt (vb (samF args in_.2.1)) []))) (.chk (True) (.know True (cond (vecP in_.2.1) (.chk (True) (.know True (rt (vb (samF args in_.2.1)) []))) (rt (vb false) []))))))) (cond ((z in_.1) == (8 : Int)) (.chk (True) (.know True (cond (intP in_.2.1) (.chk (True) (.know True (rt (vb (samF args in_.2.1)) []))) (.chk (True) (.know True (cond (vecP in_.2.1) (.chk (True) (.know True (rt (vb (samF args in_.2.1)) []))) (rt (vb false) []))))))) (cond ((z in_.1) == (9 : Int)) (.chk (True) (.know True (cond (intP in_.2.1) (.chk (True) (.know True (rt (vb (samF args in_.2.1)) []))) (.chk (True) (.know True (cond (vecP in_.2.1) (.chk (True) (.know True (rt (vb (samF args in_.2.1)) []))) (rt (vb false) []))))))) (cond ((z in_.1) == (10 : Int)) (.chk (True) (.know True (cond (intP in_.2.1) (.chk (True) (.know True (rt (vb (samF args in_.2.1)) []))) (.chk (True) (.know True (cond (vecP in_.2.1) (.chk (True) (.know True (rt (vb (samF args in_.2.1)) []))) (rt (vb false) []))))))) (cond ((z in_.1) == (11 : Int)) (.chk (True) (.know True (cond (wideP in_.2.1) (.chk (True) (.know True (rt (vb (samF args in_.2.1)) []))) (rt (vb false) [])))) (cond ((z in_.1) == (12 : Int)) (.chk (True) (.know True (cond (wideP in_.2.1) (.chk (True) (.know True (rt (vb (samF args in_.2.1)) []))) (rt (vb false) [])))) (cond ((z in_.1) == (13 : Int)) (.chk (True) (.know True (cond (wideP in_.2.1) (.chk (True) (.know True (rt (vb (samF args in_.2.1)) []))) (rt (vb false) [])))) (cond ((z in_.1) == (14 : Int)) (.chk (True) (.know True (cond (wideP in_.2.1) (.chk (True) (.know True (rt (vb (samF args in_.2.1)) []))) (rt (vb false) [])))) (cond ((z in_.1) == (15 : Int)) (.chk (True) (.know True (cond (wideP in_.2.1) (.chk (True) (.know True (rt (vb (samF args in_.2.1)) []))) (rt (vb false) [])))) (cond ((z in_.1) == (16 : Int)) (cond ((z in_.2.1) == (1 : Int)) (.chk (0 ≤ (0 : Int) ∧ (0 : Int) < (ln I args)) (.chk (True) (cond (intP (gd I args (0 : Nat))) (.chk (0 ≤ (1 : Int) ∧ (1 : Int) < (ln I args)) (.chk (0 ≤ (0 : Int) ∧ (0 : Int) < (ln I args)) (.know True (rt (vb ((z (gd I args (1 : Nat))) == (z (gd I args (0 : Nat))))) [])))) (.chk (0 ≤ (0 : Int) ∧ (0 : Int) < (ln I args)) (cond ((z (gd I args (0 : Nat))) == (5 : Int)) (.chk (0 ≤ (1 : Int) ∧ (1 : Int) < (ln I args)) (.chk (0 ≤ (0 : Int) ∧ (0 : Int) < (ln I args)) (.know True (rt (vb ((z (gd I args (1 : Nat))) == (z (gd I args (0 : Nat))))) [])))) (.know True (rt (vb false) []))))))) (rt (vb false) [])) (cond ((z in_.1) == (17 : Int)) (cond ((z in_.2.1) == (1 : Int)) (.chk (0 ≤ (0 : Int) ∧ (0 : Int) < (ln I args)) (.chk (True) (cond (intP (gd I args (0 : Nat))) (.chk (0 ≤ (1 : Int) ∧ (1 : Int) < (ln I args)) (.chk (0 ≤ (0 : Int) ∧ (0 : Int) < (ln I args)) (.know True (rt (vb ((z (gd I args (1 : Nat))) == (z (gd I args (0 : Nat))))) [])))) (.chk (0 ≤ (0 : Int) ∧ (0 : Int) < (ln I args)) (cond ((z (gd I args (0 : Nat))) == (5 : Int)) (.chk (0 ≤ (1 : Int) ∧ (1 : Int) < (ln I args)) (.chk (0 ≤ (0 : Int) ∧ (0 : Int) < (ln I args)) (.know True (rt (vb ((z (gd I args (1 : Nat))) == (z (gd I args (0 : Nat))))) [])))) (.know True (rt (vb false) []))))))) (rt (vb false) [])) (cond ((z in_.1) == (18 : Int)) (cond ((z in_.2.1) == (1 : Int)) (.chk (0 ≤ (0 : Int) ∧ (0 : Int) < (ln I args)) (.chk (True) (cond (wideP (gd I args (0 : Nat))) (.chk (0 ≤ (1 : Int) ∧ (1 : Int) < (ln I args)) (.chk (0 ≤ (0 : Int) ∧ (0 : Int) < (ln I args)) (.know True (rt (vb ((z (gd I args (1 : Nat))) == (z (gd I args (0 : Nat))))) [])))) (.know True (rt (vb false) []))))) (rt (vb false) [])) (cond ((z in_.1) == (19 : Int)) (cond ((z in_.2.1) == (1 : Int)) (.chk (0 ≤ (0 : Int) ∧ (0 : Int) < (ln I args)) (.chk (True) (cond (wideP (gd I args (0 : Nat))) (.chk (0 ≤ (1 : Int) ∧ (1 : Int) < (ln I args)) (.chk (0 ≤ (0 : Int) ∧ (0 : Int) < (ln I args)) (.know True (rt (vb ((z (gd I args (1 : Nat))) == (z (gd I args (0 : Nat))))) [])))) (.know True (rt (vb false) []))))) (rt (vb false) [])) (cond ((z in_.1) == (20 : Int)) (cond ((z in_.2.1) == (1 : Int)) (.chk (0 ≤ (0 : Int) ∧ (0 : Int) < (ln I args)) (.chk (True) (cond (wideP (gd I args (0 : Nat))) (.chk (0 ≤ (1 : Int) ∧ (1 : Int) < (ln I args)) (.chk (0 ≤ (0 : Int) ∧ (0 : Int) < (ln I args)) (.know True (rt (vb ((z (gd I args (1 : Nat))) == (z (gd I args (0 : Nat))))) [])))) (.know True (rt (vb false) []))))) (rt (vb false) [])) (cond ((z in_.1) == (21 : Int)) (.chk (True) (.know True (cond (typP in_.2.1) (.chk (0 ≤ (0 : Int) ∧ (0 : Int) < (ln I args)) (cond ((z (gd I args (0 : Nat))) == (1 : Int)) (.chk (0 ≤ (1 : Int) ∧ (1 : Int) ≤ ((ln I args) : Int) ∧ ((ln I args) : Int) ≤ ((ln I args) : Int)) (.chk (True) (.know True (rt (vb (samF (wn I args (1 : Nat) ((ln I args) - (1 : Nat))) in_.2.1)) [])))) (rt (vb false) []))) (rt (vb false) [])))) (cond ((z in_.1) == (22 : Int)) (.chk (0 ≤ (0 : Int) ∧ (0 : Int) < (ln I args)) (cond ((z (gd I args (0 : Nat))) == (2 : Int)) (cond ((z in_.2.1) == (3 : Int)) (.chk (0 ≤ (0 : Int) ∧ (0 : Int) < (ln I args)) (rt (vb (decide ((z in_.2.1) > (z (gd I args (0 : Nat)))))) [])) (cond ((z in_.2.1) == (4 : Int)) (.chk (0 ≤ (0 : Int) ∧ (0 : Int) < (ln I args)) (rt (vb (decide ((z in_.2.1) > (z (gd I args (0 : Nat)))))) [])) (rt (vb false) []))) (.chk (0 ≤ (0 : Int) ∧ (0 : Int) < (ln I args)) (cond ((z (gd I args (0 : Nat))) == (3 : Int)) (cond ((z in_.2.1) == (3 : Int)) (.chk (0 ≤ (0 : Int) ∧ (0 : Int) < (ln I args)) (rt (vb (decide ((z in_.2.1) > (z (gd I args (0 : Nat)))))) [])) (cond ((z in_.2.1) == (4 : Int)) (.chk (0 ≤ (0 : Int) ∧ (0 : Int) < (ln I args)) (rt (vb (decide ((z in_.2.1) > (z (gd I args (0 : Nat)))))) [])) (rt (vb false) []))) (rt (vb false) []))))) (cond ((z in_.1) == (23 : Int)) (.chk (0 ≤ (0 : Int) ∧ (0 : Int) < (ln I args)) (cond ((z (gd I args (0 : Nat))) == (1 : Int)) (.chk (True) (.know True (cond (wideP in_.2.1) (.chk (0 ≤ (0 : Int) ∧ (0 : Int) < (ln I args)) (rt (vb (decide ((z in_.2.1) > (z (gd I args (0 : Nat)))))) [])) (rt (vb false) [])))) (.chk (0 ≤ (0 : Int) ∧ (0 : Int) < (ln I args)) (cond ((z (gd I args (0 : Nat))) == (2 : Int)) (.chk (True) (.know True (cond (wideP in_.2.1) (.chk (0 ≤ (0 : Int) ∧ (0 : Int) < (ln I args)) (rt (vb (decide ((z in_.2.1) > (z (gd I args (0 : Nat)))))) [])) (rt (vb false) [])))) (.chk (0 ≤ (0 : Int) ∧ (0 : Int) < (ln I args)) (cond ((z (gd I args (0 : Nat))) == (3 : Int)) (.chk (True) (.know True (cond (wideP in_.2.1) (.chk (0 ≤ (0 : Int) ∧ (0 : Int) < (ln I args)) (rt (vb (decide ((z in_.2.1) > (z (gd I args (0 : Nat)))))) [])) (rt (vb false) [])))) (rt (vb false) []))))))) (cond ((z in_.1) == (24 : Int)) (.chk (0 ≤ (0 : Int) ∧ (0 : Int) < (ln I args)) (.chk (True) (.know True (cond (wideP (gd I args (0 : Nat))) (.chk (True) (.know True (cond (intP in_.2.1) (.chk (0 ≤ (0 : Int) ∧ (0 : Int) < (ln I args)) (rt (vb (decide ((z in_.2.1) < (z (gd I args (0 : Nat)))))) [])) (rt (vb false) [])))) (rt (vb false) []))))) (cond ((z in_.1) == (25 : Int)) (rt (vb ((z in_.2.1) == (5 : Int))) []) (cond ((z in_.1) == (26 : Int)) (rt (vb ((z in_.2.1) == (5 : Int))) []) (cond ((z in_.1) == (27 : Int)) (cond ((z in_.2.1) == (5 : Int)) (.chk (0 ≤ (0 : Int) ∧ (0 : Int) < (ln I args)) (cond ((z (gd I args (0 : Nat))) == (5 : Int)) (.chk (0 ≤ (1 : Int) ∧ (1 : Int) < (ln I args)) (rt (vb ((z (gd I args (1 : Nat))) == (4 : Int))) [])) (rt (vb false) []))) (rt (vb false) [])) (cond ((z in_.1) == (28 : Int)) (.chk (True) (.know True (cond (cellP in_.2.1) (.chk (0 ≤ (0 : Int) ∧ (0 : Int) < (ln I args)) (rt (vb ((z (gd I args (0 : Nat))) == (5 : Int))) [])) (rt (vb false) [])))) (cond ((z in_.1) == (29 : Int)) (cond ((z in_.2.1) == (0 : Int)) (.chk (0 ≤ (0 : Int) ∧ (0 : Int) < (ln I args)) (cond ((z (gd I args (0 : Nat))) == (5 : Int)) (.chk (0 ≤ (1 : Int) ∧ (1 : Int) < (ln I args)) (.chk (True) (.know True (rt (vb (cellP (gd I args (1 : Nat)))) [])))) (rt (vb false) []))) (rt (vb false) [])) (cond ((z in_.1) == (30 : Int)) (.chk ((0 ≤ z in_.2.2.2.2.2.1 ∧ z in_.2.2.2.2.2.1 < (ln qaa m.2.1 : Nat)) ∧ ln I (gd qaa m.2.1 (z in_.2.2.2.2.2.1).toNat).2.1 ≤ ln I args) (.know True (rt (vb (calF in_ args m)) []))) (cond ((z in_.1) == (31 : Int)) (cond ((z in_.2.1) == (0 : Int)) (.chk (0 ≤ (0 : Int) ∧ (0 : Int) < (ln I args)) (.chk (True) (.know True (rt (vb (typP (gd I args (0 : Nat)))) [])))) (rt (vb false) [])) (cond ((z in_.1) == (32 : Int)) (cond ((z in_.2.1) == (6 : Int)) (cond (((ln I args) : Int) == (2 : Int)) (.chk (True) (.know True (rt (vb (samF args (3 : Int))) []))) (cond ((z in_.2.1) == (7 : Int)) (cond (((ln I args) : Int) == (4 : Int)) (.chk (True) (.know True (rt (vb (samF args (3 : Int))) []))) (rt (vb false) [])) (rt (vb false) []))) (cond ((z in_.2.1) == (7 : Int)) (cond (((ln I args) : Int) == (4 : Int)) (.chk (True) (.know True (rt (vb (samF args (3 : Int))) []))) (rt (vb false) [])) (rt (vb false) []))) (cond ((z in_.2.1) == (3 : Int)) (.chk (0 ≤ (0 : Int) ∧ (0 : Int) < (ln I args)) (.chk (True) (.know True (rt (vb (vecP (gd I args (0 : Nat)))) [])))) (rt (vb false) [])))))))))))))))))))))))))))))))))) := by kernel_rfl
def tydOK (x : Ins) (args : List (Den I)) (m : Md) : Prop := (z x.1 = 30 → (0 ≤ z x.2.2.2.2.2.1 ∧ z x.2.2.2.2.2.1 < (ln qaa m.2.1 : Nat)) ∧ ln I (gd qaa m.2.1 (z x.2.2.2.2.2.1).toNat).2.1 ≤ ln I args) ∧
 ((16 ≤ z x.1 ∧ z x.1 ≤ 21 ∨ z x.1 = 27 ∨ z x.1 = 29) → 2 ≤ ln I args) ∧ (z x.1 = 21 → 3 ≤ ln I args) ∧ ((22 ≤ z x.1 ∧ z x.1 ≤ 24 ∨ z x.1 = 28 ∨ z x.1 = 31 ∨ z x.1 = 33) → 1 ≤ ln I args)
def tydP (in_ : Den qad) (args : List (Den I)) (m : Den qah) : Bool := (cond ((z in_.1) == (1 : Int)) (intP in_.2.1) (cond ((z in_.1) == (2 : Int)) (typP in_.2.1) (cond ((z in_.1) == (3 : Int)) (cond (typP in_.2.1) (cond ((z in_.2.1) != (5 : Int)) (samF args in_.2.1) false) false) (cond ((z in_.1) == (4 : Int)) (cond (typP in_.2.1) (samF args in_.2.1) false) (cond ((z in_.1) == (5 : Int)) (cond (wideP in_.2.1) (samF args in_.2.1) (cond (vecP in_.2.1) (samF args in_.2.1) false)) (cond ((z in_.1) == (6 : Int)) (cond (wideP in_.2.1) (samF args in_.2.1) (cond (vecP in_.2.1) (samF args in_.2.1) false)) (cond ((z in_.1) == (7 : Int)) (cond (wideP in_.2.1) (samF args in_.2.1) (cond (vecP in_.2.1) (samF args in_.2.1) false)) (cond ((z in_.1) == (8 : Int)) (cond (intP in_.2.1) (samF args in_.2.1) (cond (vecP in_.2.1) (samF args in_.2.1) false)) (cond ((z in_.1) == (9 : Int)) (cond (intP in_.2.1) (samF args in_.2.1) (cond (vecP in_.2.1) (samF args in_.2.1) false)) (cond ((z in_.1) == (10 : Int)) (cond (intP in_.2.1) (samF args in_.2.1) (cond (vecP in_.2.1) (samF args in_.2.1) false)) (cond ((z in_.1) == (11 : Int)) (cond (wideP in_.2.1) (samF args in_.2.1) false) (cond ((z in_.1) == (12 : Int)) (cond (wideP in_.2.1) (samF args in_.2.1) false) (cond ((z in_.1) == (13 : Int)) (cond (wideP in_.2.1) (samF args in_.2.1) false) (cond ((z in_.1) == (14 : Int)) (cond (wideP in_.2.1) (samF args in_.2.1) false) (cond ((z in_.1) == (15 : Int)) (cond (wideP in_.2.1) (samF args in_.2.1) false) (cond ((z in_.1) == (16 : Int)) (cond ((z in_.2.1) == (1 : Int)) (cond (intP (gd I args (0 : Nat))) ((z (gd I args (1 : Nat))) == (z (gd I args (0 : Nat)))) (cond ((z (gd I args (0 : Nat))) == (5 : Int)) ((z (gd I args (1 : Nat))) == (z (gd I args (0 : Nat)))) false)) false) (cond ((z in_.1) == (17 : Int)) (cond ((z in_.2.1) == (1 : Int)) (cond (intP (gd I args (0 : Nat))) ((z (gd I args (1 : Nat))) == (z (gd I args (0 : Nat)))) (cond ((z (gd I args (0 : Nat))) == (5 : Int)) ((z (gd I args (1 : Nat))) == (z (gd I args (0 : Nat)))) false)) false) (cond ((z in_.1) == (18 : Int)) (cond ((z in_.2.1) == (1 : Int)) (cond (wideP (gd I args (0 : Nat))) ((z (gd I args (1 : Nat))) == (z (gd I args (0 : Nat)))) false) false) (cond ((z in_.1) == (19 : Int)) (cond ((z in_.2.1) == (1 : Int)) (cond (wideP (gd I args (0 : Nat))) ((z (gd I args (1 : Nat))) == (z (gd I args (0 : Nat)))) false) false) (cond ((z in_.1) == (20 : Int)) (cond ((z in_.2.1) == (1 : Int)) (cond (wideP (gd I args (0 : Nat))) ((z (gd I args (1 : Nat))) == (z (gd I args (0 : Nat)))) false) false) (cond ((z in_.1) == (21 : Int)) (cond (typP in_.2.1) (cond ((z (gd I args (0 : Nat))) == (1 : Int)) (samF (wn I args (1 : Nat) ((ln I args) - (1 : Nat))) in_.2.1) false) false) (cond ((z in_.1) == (22 : Int)) (cond ((z (gd I args (0 : Nat))) == (2 : Int)) (cond ((z in_.2.1) == (3 : Int)) (decide ((z in_.2.1) > (z (gd I args (0 : Nat))))) (cond ((z in_.2.1) == (4 : Int)) (decide ((z in_.2.1) > (z (gd I args (0 : Nat))))) false)) (cond ((z (gd I args (0 : Nat))) == (3 : Int)) (cond ((z in_.2.1) == (3 : Int)) (decide ((z in_.2.1) > (z (gd I args (0 : Nat))))) (cond ((z in_.2.1) == (4 : Int)) (decide ((z in_.2.1) > (z (gd I args (0 : Nat))))) false)) false)) (cond ((z in_.1) == (23 : Int)) (cond ((z (gd I args (0 : Nat))) == (1 : Int)) (cond (wideP in_.2.1) (decide ((z in_.2.1) > (z (gd I args (0 : Nat))))) false) (cond ((z (gd I args (0 : Nat))) == (2 : Int)) (cond (wideP in_.2.1) (decide ((z in_.2.1) > (z (gd I args (0 : Nat))))) false) (cond ((z (gd I args (0 : Nat))) == (3 : Int)) (cond (wideP in_.2.1) (decide ((z in_.2.1) > (z (gd I args (0 : Nat))))) false) false))) (cond ((z in_.1) == (24 : Int)) (cond (wideP (gd I args (0 : Nat))) (cond (intP in_.2.1) (decide ((z in_.2.1) < (z (gd I args (0 : Nat))))) false) false) (cond ((z in_.1) == (25 : Int)) ((z in_.2.1) == (5 : Int)) (cond ((z in_.1) == (26 : Int)) ((z in_.2.1) == (5 : Int)) (cond ((z in_.1) == (27 : Int)) (cond ((z in_.2.1) == (5 : Int)) (cond ((z (gd I args (0 : Nat))) == (5 : Int)) ((z (gd I args (1 : Nat))) == (4 : Int)) false) false) (cond ((z in_.1) == (28 : Int)) (cond (cellP in_.2.1) ((z (gd I args (0 : Nat))) == (5 : Int)) false) (cond ((z in_.1) == (29 : Int)) (cond ((z in_.2.1) == (0 : Int)) (cond ((z (gd I args (0 : Nat))) == (5 : Int)) (cellP (gd I args (1 : Nat))) false) false) (cond ((z in_.1) == (30 : Int)) (calF in_ args m) (cond ((z in_.1) == (31 : Int)) (cond ((z in_.2.1) == (0 : Int)) (typP (gd I args (0 : Nat))) false) (cond ((z in_.1) == (32 : Int)) (cond ((z in_.2.1) == (6 : Int)) (cond (((ln I args) : Int) == (2 : Int)) (samF args (3 : Int)) (cond ((z in_.2.1) == (7 : Int)) (cond (((ln I args) : Int) == (4 : Int)) (samF args (3 : Int)) false) false)) (cond ((z in_.2.1) == (7 : Int)) (cond (((ln I args) : Int) == (4 : Int)) (samF args (3 : Int)) false) false)) (cond ((z in_.2.1) == (3 : Int)) (vecP (gd I args (0 : Nat))) false)))))))))))))))))))))))))))))))))

def k_opcode_typed : Con := con [.d qad, .d (.sl 8 I), .d qah] .bool (fun x => 1 ≤ z x.1.1 ∧ z x.1.1 ≤ 33 ∧ tydOK x.1 x.2.1 x.2.2.1) fun x => tydP x.1 x.2.1 x.2.2.1
theorem m_opcode_typed (in_ : Den qad) (args : List (Den I)) (m : Den qah) (h_in_ : okD qad in_) (h_args : okD (.sl 8 I) args) (h_m : okD qah m) (hp : 1 ≤ z in_.1 ∧ z in_.1 ≤ 33 ∧ tydOK in_ args m) : Runs E_V13 (start E_V13 qgn [(.tv qad in_), (.tv (.sl 8 I) args), (.tv qah m)]) (fun r_ h_ => r_ = (vb (tydP in_ args m)) ∧ h_ = []) := .tree E_V13_ok (opcode_typed_t in_ args m) (by
 have hp_ := hp
 try simp only [z] at hp_
 show Tre.wp (Qv _ (fun x_ => (vb x_)) (tydP in_ args m)) _
 unfold tydP
 refine qag (fun h1 => ⟨trivial, fun _ => fun _ => ⟨rfl, rfl⟩⟩) (fun h1 => ?_)
 have h1_ := beq_f h1
 refine qag (fun h2 => ⟨trivial, fun _ => fun _ => ⟨rfl, rfl⟩⟩) (fun h2 => ?_)
 have h2_ := beq_f h2
 refine qag (fun h3 => ?_) (fun h3 => ?_)
 ·refine ⟨trivial, fun _ => ?_⟩
  refine fun _ => ?_
  refine qag (fun h4 => ?_) (fun h4 => ⟨rfl, rfl⟩)
  refine qag (fun h5 => ⟨trivial, fun _ => fun _ => ⟨rfl, rfl⟩⟩) (fun h5 => ?_)
  exact ⟨rfl, rfl⟩
 ·have h3_ := beq_f h3
  refine qag (fun h6 => ?_) (fun h6 => ?_)
  ·refine ⟨trivial, fun _ => ?_⟩
   refine fun _ => ?_
   refine qag (fun h7 => ⟨trivial, fun _ => fun _ => ⟨rfl, rfl⟩⟩) (fun h7 => ?_)
   exact ⟨rfl, rfl⟩
  ·have h6_ := beq_f h6
   refine qag (fun h8 => ?_) (fun h8 => ?_)
   ·refine ⟨trivial, fun _ => ?_⟩
    refine fun _ => ?_
    refine qag (fun h9 => ⟨trivial, fun _ => fun _ => ⟨rfl, rfl⟩⟩) (fun h9 => ?_)
    refine ⟨trivial, fun _ => ?_⟩
    refine fun _ => ?_
    refine qag (fun h10 => ⟨trivial, fun _ => fun _ => ⟨rfl, rfl⟩⟩) (fun h10 => ?_)
    exact ⟨rfl, rfl⟩
   ·have h8_ := beq_f h8
    refine qag (fun h11 => ?_) (fun h11 => ?_)
    ·refine ⟨trivial, fun _ => ?_⟩
     refine fun _ => ?_
     refine qag (fun h12 => ⟨trivial, fun _ => fun _ => ⟨rfl, rfl⟩⟩) (fun h12 => ?_)
     refine ⟨trivial, fun _ => ?_⟩
     refine fun _ => ?_
     refine qag (fun h13 => ⟨trivial, fun _ => fun _ => ⟨rfl, rfl⟩⟩) (fun h13 => ?_)
     exact ⟨rfl, rfl⟩
    ·have h11_ := beq_f h11
     refine qag (fun h14 => ?_) (fun h14 => ?_)
     ·refine ⟨trivial, fun _ => ?_⟩
      refine fun _ => ?_
      refine qag (fun h15 => ⟨trivial, fun _ => fun _ => ⟨rfl, rfl⟩⟩) (fun h15 => ?_)
      refine ⟨trivial, fun _ => ?_⟩
      refine fun _ => ?_
      refine qag (fun h16 => ⟨trivial, fun _ => fun _ => ⟨rfl, rfl⟩⟩) (fun h16 => ?_)
      exact ⟨rfl, rfl⟩
     ·have h14_ := beq_f h14
      refine qag (fun h17 => ?_) (fun h17 => ?_)
      ·refine ⟨trivial, fun _ => ?_⟩
       refine fun _ => ?_
       refine qag (fun h18 => ⟨trivial, fun _ => fun _ => ⟨rfl, rfl⟩⟩) (fun h18 => ?_)
       refine ⟨trivial, fun _ => ?_⟩
       refine fun _ => ?_
       refine qag (fun h19 => ⟨trivial, fun _ => fun _ => ⟨rfl, rfl⟩⟩) (fun h19 => ?_)
       exact ⟨rfl, rfl⟩
      ·have h17_ := beq_f h17
       refine qag (fun h20 => ?_) (fun h20 => ?_)
       ·refine ⟨trivial, fun _ => ?_⟩
        refine fun _ => ?_
        refine qag (fun h21 => ⟨trivial, fun _ => fun _ => ⟨rfl, rfl⟩⟩) (fun h21 => ?_)
        refine ⟨trivial, fun _ => ?_⟩
        refine fun _ => ?_
        refine qag (fun h22 => ⟨trivial, fun _ => fun _ => ⟨rfl, rfl⟩⟩) (fun h22 => ?_)
        exact ⟨rfl, rfl⟩
       ·have h20_ := beq_f h20
        refine qag (fun h23 => ?_) (fun h23 => ?_)
        ·refine ⟨trivial, fun _ => ?_⟩
         refine fun _ => ?_
         refine qag (fun h24 => ⟨trivial, fun _ => fun _ => ⟨rfl, rfl⟩⟩) (fun h24 => ?_)
         refine ⟨trivial, fun _ => ?_⟩
         refine fun _ => ?_
         refine qag (fun h25 => ⟨trivial, fun _ => fun _ => ⟨rfl, rfl⟩⟩) (fun h25 => ?_)
         exact ⟨rfl, rfl⟩
        ·have h23_ := beq_f h23
         refine qag (fun h26 => ?_) (fun h26 => ?_)
         ·refine ⟨trivial, fun _ => ?_⟩
          refine fun _ => ?_
          refine qag (fun h27 => ⟨trivial, fun _ => fun _ => ⟨rfl, rfl⟩⟩) (fun h27 => ?_)
          exact ⟨rfl, rfl⟩
         ·have h26_ := beq_f h26
          refine qag (fun h28 => ?_) (fun h28 => ?_)
          ·refine ⟨trivial, fun _ => ?_⟩
           refine fun _ => ?_
           refine qag (fun h29 => ⟨trivial, fun _ => fun _ => ⟨rfl, rfl⟩⟩) (fun h29 => ?_)
           exact ⟨rfl, rfl⟩
          ·have h28_ := beq_f h28
           refine qag (fun h30 => ?_) (fun h30 => ?_)
           ·refine ⟨trivial, fun _ => ?_⟩
            refine fun _ => ?_
            refine qag (fun h31 => ⟨trivial, fun _ => fun _ => ⟨rfl, rfl⟩⟩) (fun h31 => ?_)
            exact ⟨rfl, rfl⟩
           ·have h30_ := beq_f h30
            refine qag (fun h32 => ?_) (fun h32 => ?_)
            ·refine ⟨trivial, fun _ => ?_⟩
             refine fun _ => ?_
             refine qag (fun h33 => ⟨trivial, fun _ => fun _ => ⟨rfl, rfl⟩⟩) (fun h33 => ?_)
             exact ⟨rfl, rfl⟩
            ·have h32_ := beq_f h32
             refine qag (fun h34 => ?_) (fun h34 => ?_)
             ·refine ⟨trivial, fun _ => ?_⟩
              refine fun _ => ?_
              refine qag (fun h35 => ⟨trivial, fun _ => fun _ => ⟨rfl, rfl⟩⟩) (fun h35 => ?_)
              exact ⟨rfl, rfl⟩
             ·have h34_ := beq_f h34
              refine qag (fun h36 => ?_) (fun h36 => ?_)
              ·have h36_ := beq_t h36
               refine qag (fun h37 => ?_) (fun h37 => ⟨rfl, rfl⟩)
               have h37_ := beq_t h37
               refine ⟨by first | omega | exact (hp.2.2.1 (by assumption)) | (have g_ := hp.2.2.1 (by assumption); omega) | exact ((by have q := hp.2.2; unfold tydOK at q; omega)) | (have g_ := (by have q := hp.2.2; unfold tydOK at q; omega); omega) | assumption | exact hp.1 | exact hp.2 | exact hp.2.1 | (simp_all; done) | (simp_all; omega), fun _ => ?_⟩
               refine ⟨trivial, fun _ => ?_⟩
               refine qag (fun h38 => ?_) (fun h38 => ?_)
               ·refine ⟨by first | omega | exact (hp.2.2.1 (by assumption)) | (have g_ := hp.2.2.1 (by assumption); omega) | exact ((by have q := hp.2.2; unfold tydOK at q; omega)) | (have g_ := (by have q := hp.2.2; unfold tydOK at q; omega); omega) | assumption | exact hp.1 | exact hp.2 | exact hp.2.1 | (simp_all; done) | (simp_all; omega), fun _ => ?_⟩
                refine ⟨by first | omega | exact (hp.2.2.1 (by assumption)) | (have g_ := hp.2.2.1 (by assumption); omega) | exact ((by have q := hp.2.2; unfold tydOK at q; omega)) | (have g_ := (by have q := hp.2.2; unfold tydOK at q; omega); omega) | assumption | exact hp.1 | exact hp.2 | exact hp.2.1 | (simp_all; done) | (simp_all; omega), fun _ => ?_⟩
                exact fun _ => ⟨rfl, rfl⟩
               ·refine ⟨by first | omega | exact (hp.2.2.1 (by assumption)) | (have g_ := hp.2.2.1 (by assumption); omega) | exact ((by have q := hp.2.2; unfold tydOK at q; omega)) | (have g_ := (by have q := hp.2.2; unfold tydOK at q; omega); omega) | assumption | exact hp.1 | exact hp.2 | exact hp.2.1 | (simp_all; done) | (simp_all; omega), fun _ => ?_⟩
                refine qag (fun h39 => ?_) (fun h39 => fun _ => ⟨rfl, rfl⟩)
                have h39_ := beq_t h39
                refine ⟨by first | omega | exact (hp.2.2.1 (by assumption)) | (have g_ := hp.2.2.1 (by assumption); omega) | exact ((by have q := hp.2.2; unfold tydOK at q; omega)) | (have g_ := (by have q := hp.2.2; unfold tydOK at q; omega); omega) | assumption | exact hp.1 | exact hp.2 | exact hp.2.1 | (simp_all; done) | (simp_all; omega), fun _ => ?_⟩
                refine ⟨by first | omega | exact (hp.2.2.1 (by assumption)) | (have g_ := hp.2.2.1 (by assumption); omega) | exact ((by have q := hp.2.2; unfold tydOK at q; omega)) | (have g_ := (by have q := hp.2.2; unfold tydOK at q; omega); omega) | assumption | exact hp.1 | exact hp.2 | exact hp.2.1 | (simp_all; done) | (simp_all; omega), fun _ => ?_⟩
                exact fun _ => ⟨rfl, rfl⟩
              ·have h36_ := beq_f h36
               refine qag (fun h40 => ?_) (fun h40 => ?_)
               ·have h40_ := beq_t h40
                refine qag (fun h41 => ?_) (fun h41 => ⟨rfl, rfl⟩)
                have h41_ := beq_t h41
                refine ⟨by first | omega | exact (hp.2.2.1 (by assumption)) | (have g_ := hp.2.2.1 (by assumption); omega) | exact ((by have q := hp.2.2; unfold tydOK at q; omega)) | (have g_ := (by have q := hp.2.2; unfold tydOK at q; omega); omega) | assumption | exact hp.1 | exact hp.2 | exact hp.2.1 | (simp_all; done) | (simp_all; omega), fun _ => ?_⟩
                refine ⟨trivial, fun _ => ?_⟩
                refine qag (fun h42 => ?_) (fun h42 => ?_)
                ·refine ⟨by first | omega | exact (hp.2.2.1 (by assumption)) | (have g_ := hp.2.2.1 (by assumption); omega) | exact ((by have q := hp.2.2; unfold tydOK at q; omega)) | (have g_ := (by have q := hp.2.2; unfold tydOK at q; omega); omega) | assumption | exact hp.1 | exact hp.2 | exact hp.2.1 | (simp_all; done) | (simp_all; omega), fun _ => ?_⟩
                 refine ⟨by first | omega | exact (hp.2.2.1 (by assumption)) | (have g_ := hp.2.2.1 (by assumption); omega) | exact ((by have q := hp.2.2; unfold tydOK at q; omega)) | (have g_ := (by have q := hp.2.2; unfold tydOK at q; omega); omega) | assumption | exact hp.1 | exact hp.2 | exact hp.2.1 | (simp_all; done) | (simp_all; omega), fun _ => ?_⟩
                 exact fun _ => ⟨rfl, rfl⟩
                ·refine ⟨by first | omega | exact (hp.2.2.1 (by assumption)) | (have g_ := hp.2.2.1 (by assumption); omega) | exact ((by have q := hp.2.2; unfold tydOK at q; omega)) | (have g_ := (by have q := hp.2.2; unfold tydOK at q; omega); omega) | assumption | exact hp.1 | exact hp.2 | exact hp.2.1 | (simp_all; done) | (simp_all; omega), fun _ => ?_⟩
                 refine qag (fun h43 => ?_) (fun h43 => fun _ => ⟨rfl, rfl⟩)
                 have h43_ := beq_t h43
                 refine ⟨by first | omega | exact (hp.2.2.1 (by assumption)) | (have g_ := hp.2.2.1 (by assumption); omega) | exact ((by have q := hp.2.2; unfold tydOK at q; omega)) | (have g_ := (by have q := hp.2.2; unfold tydOK at q; omega); omega) | assumption | exact hp.1 | exact hp.2 | exact hp.2.1 | (simp_all; done) | (simp_all; omega), fun _ => ?_⟩
                 refine ⟨by first | omega | exact (hp.2.2.1 (by assumption)) | (have g_ := hp.2.2.1 (by assumption); omega) | exact ((by have q := hp.2.2; unfold tydOK at q; omega)) | (have g_ := (by have q := hp.2.2; unfold tydOK at q; omega); omega) | assumption | exact hp.1 | exact hp.2 | exact hp.2.1 | (simp_all; done) | (simp_all; omega), fun _ => ?_⟩
                 exact fun _ => ⟨rfl, rfl⟩
               ·have h40_ := beq_f h40
                refine qag (fun h44 => ?_) (fun h44 => ?_)
                ·have h44_ := beq_t h44
                 refine qag (fun h45 => ?_) (fun h45 => ⟨rfl, rfl⟩)
                 have h45_ := beq_t h45
                 refine ⟨by first | omega | exact (hp.2.2.1 (by assumption)) | (have g_ := hp.2.2.1 (by assumption); omega) | exact ((by have q := hp.2.2; unfold tydOK at q; omega)) | (have g_ := (by have q := hp.2.2; unfold tydOK at q; omega); omega) | assumption | exact hp.1 | exact hp.2 | exact hp.2.1 | (simp_all; done) | (simp_all; omega), fun _ => ?_⟩
                 refine ⟨trivial, fun _ => ?_⟩
                 refine qag (fun h46 => ?_) (fun h46 => fun _ => ⟨rfl, rfl⟩)
                 refine ⟨by first | omega | exact (hp.2.2.1 (by assumption)) | (have g_ := hp.2.2.1 (by assumption); omega) | exact ((by have q := hp.2.2; unfold tydOK at q; omega)) | (have g_ := (by have q := hp.2.2; unfold tydOK at q; omega); omega) | assumption | exact hp.1 | exact hp.2 | exact hp.2.1 | (simp_all; done) | (simp_all; omega), fun _ => ?_⟩
                 refine ⟨by first | omega | exact (hp.2.2.1 (by assumption)) | (have g_ := hp.2.2.1 (by assumption); omega) | exact ((by have q := hp.2.2; unfold tydOK at q; omega)) | (have g_ := (by have q := hp.2.2; unfold tydOK at q; omega); omega) | assumption | exact hp.1 | exact hp.2 | exact hp.2.1 | (simp_all; done) | (simp_all; omega), fun _ => ?_⟩
                 exact fun _ => ⟨rfl, rfl⟩
                ·have h44_ := beq_f h44
                 refine qag (fun h47 => ?_) (fun h47 => ?_)
                 ·have h47_ := beq_t h47
                  refine qag (fun h48 => ?_) (fun h48 => ⟨rfl, rfl⟩)
                  have h48_ := beq_t h48
                  refine ⟨by first | omega | exact (hp.2.2.1 (by assumption)) | (have g_ := hp.2.2.1 (by assumption); omega) | exact ((by have q := hp.2.2; unfold tydOK at q; omega)) | (have g_ := (by have q := hp.2.2; unfold tydOK at q; omega); omega) | assumption | exact hp.1 | exact hp.2 | exact hp.2.1 | (simp_all; done) | (simp_all; omega), fun _ => ?_⟩
                  refine ⟨trivial, fun _ => ?_⟩
                  refine qag (fun h49 => ?_) (fun h49 => fun _ => ⟨rfl, rfl⟩)
                  refine ⟨by first | omega | exact (hp.2.2.1 (by assumption)) | (have g_ := hp.2.2.1 (by assumption); omega) | exact ((by have q := hp.2.2; unfold tydOK at q; omega)) | (have g_ := (by have q := hp.2.2; unfold tydOK at q; omega); omega) | assumption | exact hp.1 | exact hp.2 | exact hp.2.1 | (simp_all; done) | (simp_all; omega), fun _ => ?_⟩
                  refine ⟨by first | omega | exact (hp.2.2.1 (by assumption)) | (have g_ := hp.2.2.1 (by assumption); omega) | exact ((by have q := hp.2.2; unfold tydOK at q; omega)) | (have g_ := (by have q := hp.2.2; unfold tydOK at q; omega); omega) | assumption | exact hp.1 | exact hp.2 | exact hp.2.1 | (simp_all; done) | (simp_all; omega), fun _ => ?_⟩
                  exact fun _ => ⟨rfl, rfl⟩
                 ·have h47_ := beq_f h47
                  refine qag (fun h50 => ?_) (fun h50 => ?_)
                  ·have h50_ := beq_t h50
                   refine qag (fun h51 => ?_) (fun h51 => ⟨rfl, rfl⟩)
                   have h51_ := beq_t h51
                   refine ⟨by first | omega | exact (hp.2.2.1 (by assumption)) | (have g_ := hp.2.2.1 (by assumption); omega) | exact ((by have q := hp.2.2; unfold tydOK at q; omega)) | (have g_ := (by have q := hp.2.2; unfold tydOK at q; omega); omega) | assumption | exact hp.1 | exact hp.2 | exact hp.2.1 | (simp_all; done) | (simp_all; omega), fun _ => ?_⟩
                   refine ⟨trivial, fun _ => ?_⟩
                   refine qag (fun h52 => ?_) (fun h52 => fun _ => ⟨rfl, rfl⟩)
                   refine ⟨by first | omega | exact (hp.2.2.1 (by assumption)) | (have g_ := hp.2.2.1 (by assumption); omega) | exact ((by have q := hp.2.2; unfold tydOK at q; omega)) | (have g_ := (by have q := hp.2.2; unfold tydOK at q; omega); omega) | assumption | exact hp.1 | exact hp.2 | exact hp.2.1 | (simp_all; done) | (simp_all; omega), fun _ => ?_⟩
                   refine ⟨by first | omega | exact (hp.2.2.1 (by assumption)) | (have g_ := hp.2.2.1 (by assumption); omega) | exact ((by have q := hp.2.2; unfold tydOK at q; omega)) | (have g_ := (by have q := hp.2.2; unfold tydOK at q; omega); omega) | assumption | exact hp.1 | exact hp.2 | exact hp.2.1 | (simp_all; done) | (simp_all; omega), fun _ => ?_⟩
                   exact fun _ => ⟨rfl, rfl⟩
                  ·have h50_ := beq_f h50
                   refine qag (fun h53 => ?_) (fun h53 => ?_)
                   ·have h53_ := beq_t h53
                    refine ⟨trivial, fun _ => ?_⟩
                    refine fun _ => ?_
                    refine qag (fun h54 => ?_) (fun h54 => ⟨rfl, rfl⟩)
                    refine ⟨by first | omega | exact (hp.2.2.1 (by assumption)) | (have g_ := hp.2.2.1 (by assumption); omega) | exact ((by have q := hp.2.2; unfold tydOK at q; omega)) | (have g_ := (by have q := hp.2.2; unfold tydOK at q; omega); omega) | assumption | exact hp.1 | exact hp.2 | exact hp.2.1 | (simp_all; done) | (simp_all; omega), fun _ => ?_⟩
                    refine qag (fun h55 => ?_) (fun h55 => ⟨rfl, rfl⟩)
                    have h55_ := beq_t h55
                    refine ⟨by first | omega | exact (hp.2.2.1 (by assumption)) | (have g_ := hp.2.2.1 (by assumption); omega) | exact ((by have q := hp.2.2; unfold tydOK at q; omega)) | (have g_ := (by have q := hp.2.2; unfold tydOK at q; omega); omega) | assumption | exact hp.1 | exact hp.2 | exact hp.2.1 | (simp_all; done) | (simp_all; omega), fun _ => ?_⟩
                    exact ⟨trivial, fun _ => fun _ => ⟨rfl, rfl⟩⟩
                   ·have h53_ := beq_f h53
                    refine qag (fun h56 => ?_) (fun h56 => ?_)
                    ·have h56_ := beq_t h56
                     refine ⟨by first | omega | exact (hp.2.2.1 (by assumption)) | (have g_ := hp.2.2.1 (by assumption); omega) | exact ((by have q := hp.2.2; unfold tydOK at q; omega)) | (have g_ := (by have q := hp.2.2; unfold tydOK at q; omega); omega) | assumption | exact hp.1 | exact hp.2 | exact hp.2.1 | (simp_all; done) | (simp_all; omega), fun _ => ?_⟩
                     refine qag (fun h57 => ?_) (fun h57 => ?_)
                     ·have h57_ := beq_t h57
                      refine qag (fun h58 => ?_) (fun h58 => ?_)
                      ·have h58_ := beq_t h58
                       refine ⟨by first | omega | exact (hp.2.2.1 (by assumption)) | (have g_ := hp.2.2.1 (by assumption); omega) | exact ((by have q := hp.2.2; unfold tydOK at q; omega)) | (have g_ := (by have q := hp.2.2; unfold tydOK at q; omega); omega) | assumption | exact hp.1 | exact hp.2 | exact hp.2.1 | (simp_all; done) | (simp_all; omega), fun _ => ?_⟩
                       exact ⟨rfl, rfl⟩
                      ·have h58_ := beq_f h58
                       refine qag (fun h59 => ?_) (fun h59 => ⟨rfl, rfl⟩)
                       have h59_ := beq_t h59
                       refine ⟨by first | omega | exact (hp.2.2.1 (by assumption)) | (have g_ := hp.2.2.1 (by assumption); omega) | exact ((by have q := hp.2.2; unfold tydOK at q; omega)) | (have g_ := (by have q := hp.2.2; unfold tydOK at q; omega); omega) | assumption | exact hp.1 | exact hp.2 | exact hp.2.1 | (simp_all; done) | (simp_all; omega), fun _ => ?_⟩
                       exact ⟨rfl, rfl⟩
                     ·have h57_ := beq_f h57
                      refine ⟨by first | omega | exact (hp.2.2.1 (by assumption)) | (have g_ := hp.2.2.1 (by assumption); omega) | exact ((by have q := hp.2.2; unfold tydOK at q; omega)) | (have g_ := (by have q := hp.2.2; unfold tydOK at q; omega); omega) | assumption | exact hp.1 | exact hp.2 | exact hp.2.1 | (simp_all; done) | (simp_all; omega), fun _ => ?_⟩
                      refine qag (fun h60 => ?_) (fun h60 => ⟨rfl, rfl⟩)
                      have h60_ := beq_t h60
                      refine qag (fun h61 => ?_) (fun h61 => ?_)
                      ·have h61_ := beq_t h61
                       refine ⟨by first | omega | exact (hp.2.2.1 (by assumption)) | (have g_ := hp.2.2.1 (by assumption); omega) | exact ((by have q := hp.2.2; unfold tydOK at q; omega)) | (have g_ := (by have q := hp.2.2; unfold tydOK at q; omega); omega) | assumption | exact hp.1 | exact hp.2 | exact hp.2.1 | (simp_all; done) | (simp_all; omega), fun _ => ?_⟩
                       exact ⟨rfl, rfl⟩
                      ·have h61_ := beq_f h61
                       refine qag (fun h62 => ?_) (fun h62 => ⟨rfl, rfl⟩)
                       have h62_ := beq_t h62
                       refine ⟨by first | omega | exact (hp.2.2.1 (by assumption)) | (have g_ := hp.2.2.1 (by assumption); omega) | exact ((by have q := hp.2.2; unfold tydOK at q; omega)) | (have g_ := (by have q := hp.2.2; unfold tydOK at q; omega); omega) | assumption | exact hp.1 | exact hp.2 | exact hp.2.1 | (simp_all; done) | (simp_all; omega), fun _ => ?_⟩
                       exact ⟨rfl, rfl⟩
                    ·have h56_ := beq_f h56
                     refine qag (fun h63 => ?_) (fun h63 => ?_)
                     ·have h63_ := beq_t h63
                      refine ⟨by first | omega | exact (hp.2.2.1 (by assumption)) | (have g_ := hp.2.2.1 (by assumption); omega) | exact ((by have q := hp.2.2; unfold tydOK at q; omega)) | (have g_ := (by have q := hp.2.2; unfold tydOK at q; omega); omega) | assumption | exact hp.1 | exact hp.2 | exact hp.2.1 | (simp_all; done) | (simp_all; omega), fun _ => ?_⟩
                      refine qag (fun h64 => ?_) (fun h64 => ?_)
                      ·have h64_ := beq_t h64
                       refine ⟨trivial, fun _ => ?_⟩
                       refine fun _ => ?_
                       refine qag (fun h65 => ?_) (fun h65 => ⟨rfl, rfl⟩)
                       refine ⟨by first | omega | exact (hp.2.2.1 (by assumption)) | (have g_ := hp.2.2.1 (by assumption); omega) | exact ((by have q := hp.2.2; unfold tydOK at q; omega)) | (have g_ := (by have q := hp.2.2; unfold tydOK at q; omega); omega) | assumption | exact hp.1 | exact hp.2 | exact hp.2.1 | (simp_all; done) | (simp_all; omega), fun _ => ?_⟩
                       exact ⟨rfl, rfl⟩
                      ·have h64_ := beq_f h64
                       refine ⟨by first | omega | exact (hp.2.2.1 (by assumption)) | (have g_ := hp.2.2.1 (by assumption); omega) | exact ((by have q := hp.2.2; unfold tydOK at q; omega)) | (have g_ := (by have q := hp.2.2; unfold tydOK at q; omega); omega) | assumption | exact hp.1 | exact hp.2 | exact hp.2.1 | (simp_all; done) | (simp_all; omega), fun _ => ?_⟩
                       refine qag (fun h66 => ?_) (fun h66 => ?_)
                       ·have h66_ := beq_t h66
                        refine ⟨trivial, fun _ => ?_⟩
                        refine fun _ => ?_
                        refine qag (fun h67 => ?_) (fun h67 => ⟨rfl, rfl⟩)
                        refine ⟨by first | omega | exact (hp.2.2.1 (by assumption)) | (have g_ := hp.2.2.1 (by assumption); omega) | exact ((by have q := hp.2.2; unfold tydOK at q; omega)) | (have g_ := (by have q := hp.2.2; unfold tydOK at q; omega); omega) | assumption | exact hp.1 | exact hp.2 | exact hp.2.1 | (simp_all; done) | (simp_all; omega), fun _ => ?_⟩
                        exact ⟨rfl, rfl⟩
                       ·have h66_ := beq_f h66
                        refine ⟨by first | omega | exact (hp.2.2.1 (by assumption)) | (have g_ := hp.2.2.1 (by assumption); omega) | exact ((by have q := hp.2.2; unfold tydOK at q; omega)) | (have g_ := (by have q := hp.2.2; unfold tydOK at q; omega); omega) | assumption | exact hp.1 | exact hp.2 | exact hp.2.1 | (simp_all; done) | (simp_all; omega), fun _ => ?_⟩
                        refine qag (fun h68 => ?_) (fun h68 => ⟨rfl, rfl⟩)
                        have h68_ := beq_t h68
                        refine ⟨trivial, fun _ => ?_⟩
                        refine fun _ => ?_
                        refine qag (fun h69 => ?_) (fun h69 => ⟨rfl, rfl⟩)
                        refine ⟨by first | omega | exact (hp.2.2.1 (by assumption)) | (have g_ := hp.2.2.1 (by assumption); omega) | exact ((by have q := hp.2.2; unfold tydOK at q; omega)) | (have g_ := (by have q := hp.2.2; unfold tydOK at q; omega); omega) | assumption | exact hp.1 | exact hp.2 | exact hp.2.1 | (simp_all; done) | (simp_all; omega), fun _ => ?_⟩
                        exact ⟨rfl, rfl⟩
                     ·have h63_ := beq_f h63
                      refine qag (fun h70 => ?_) (fun h70 => ?_)
                      ·have h70_ := beq_t h70
                       refine ⟨by first | omega | exact (hp.2.2.1 (by assumption)) | (have g_ := hp.2.2.1 (by assumption); omega) | exact ((by have q := hp.2.2; unfold tydOK at q; omega)) | (have g_ := (by have q := hp.2.2; unfold tydOK at q; omega); omega) | assumption | exact hp.1 | exact hp.2 | exact hp.2.1 | (simp_all; done) | (simp_all; omega), fun _ => ?_⟩
                       refine ⟨trivial, fun _ => ?_⟩
                       refine fun _ => ?_
                       refine qag (fun h71 => ?_) (fun h71 => ⟨rfl, rfl⟩)
                       refine ⟨trivial, fun _ => ?_⟩
                       refine fun _ => ?_
                       refine qag (fun h72 => ?_) (fun h72 => ⟨rfl, rfl⟩)
                       refine ⟨by first | omega | exact (hp.2.2.1 (by assumption)) | (have g_ := hp.2.2.1 (by assumption); omega) | exact ((by have q := hp.2.2; unfold tydOK at q; omega)) | (have g_ := (by have q := hp.2.2; unfold tydOK at q; omega); omega) | assumption | exact hp.1 | exact hp.2 | exact hp.2.1 | (simp_all; done) | (simp_all; omega), fun _ => ?_⟩
                       exact ⟨rfl, rfl⟩
                      ·have h70_ := beq_f h70
                       refine qag (fun h73 => ⟨rfl, rfl⟩) (fun h73 => ?_)
                       have h73_ := beq_f h73
                       refine qag (fun h74 => ⟨rfl, rfl⟩) (fun h74 => ?_)
                       have h74_ := beq_f h74
                       refine qag (fun h75 => ?_) (fun h75 => ?_)
                       ·have h75_ := beq_t h75
                        refine qag (fun h76 => ?_) (fun h76 => ⟨rfl, rfl⟩)
                        have h76_ := beq_t h76
                        refine ⟨by first | omega | exact (hp.2.2.1 (by assumption)) | (have g_ := hp.2.2.1 (by assumption); omega) | exact ((by have q := hp.2.2; unfold tydOK at q; omega)) | (have g_ := (by have q := hp.2.2; unfold tydOK at q; omega); omega) | assumption | exact hp.1 | exact hp.2 | exact hp.2.1 | (simp_all; done) | (simp_all; omega), fun _ => ?_⟩
                        refine qag (fun h77 => ?_) (fun h77 => ⟨rfl, rfl⟩)
                        have h77_ := beq_t h77
                        refine ⟨by first | omega | exact (hp.2.2.1 (by assumption)) | (have g_ := hp.2.2.1 (by assumption); omega) | exact ((by have q := hp.2.2; unfold tydOK at q; omega)) | (have g_ := (by have q := hp.2.2; unfold tydOK at q; omega); omega) | assumption | exact hp.1 | exact hp.2 | exact hp.2.1 | (simp_all; done) | (simp_all; omega), fun _ => ?_⟩
                        exact ⟨rfl, rfl⟩
                       ·have h75_ := beq_f h75
                        refine qag (fun h78 => ?_) (fun h78 => ?_)
                        ·have h78_ := beq_t h78
                         refine ⟨trivial, fun _ => ?_⟩
                         refine fun _ => ?_
                         refine qag (fun h79 => ?_) (fun h79 => ⟨rfl, rfl⟩)
                         refine ⟨by first | omega | exact (hp.2.2.1 (by assumption)) | (have g_ := hp.2.2.1 (by assumption); omega) | exact ((by have q := hp.2.2; unfold tydOK at q; omega)) | (have g_ := (by have q := hp.2.2; unfold tydOK at q; omega); omega) | assumption | exact hp.1 | exact hp.2 | exact hp.2.1 | (simp_all; done) | (simp_all; omega), fun _ => ?_⟩
                         exact ⟨rfl, rfl⟩
                        ·have h78_ := beq_f h78
                         refine qag (fun h80 => ?_) (fun h80 => ?_)
                         ·have h80_ := beq_t h80
                          refine qag (fun h81 => ?_) (fun h81 => ⟨rfl, rfl⟩)
                          have h81_ := beq_t h81
                          refine ⟨by first | omega | exact (hp.2.2.1 (by assumption)) | (have g_ := hp.2.2.1 (by assumption); omega) | exact ((by have q := hp.2.2; unfold tydOK at q; omega)) | (have g_ := (by have q := hp.2.2; unfold tydOK at q; omega); omega) | assumption | exact hp.1 | exact hp.2 | exact hp.2.1 | (simp_all; done) | (simp_all; omega), fun _ => ?_⟩
                          refine qag (fun h82 => ?_) (fun h82 => ⟨rfl, rfl⟩)
                          have h82_ := beq_t h82
                          refine ⟨by first | omega | exact (hp.2.2.1 (by assumption)) | (have g_ := hp.2.2.1 (by assumption); omega) | exact ((by have q := hp.2.2; unfold tydOK at q; omega)) | (have g_ := (by have q := hp.2.2; unfold tydOK at q; omega); omega) | assumption | exact hp.1 | exact hp.2 | exact hp.2.1 | (simp_all; done) | (simp_all; omega), fun _ => ?_⟩
                          exact ⟨trivial, fun _ => fun _ => ⟨rfl, rfl⟩⟩
                         ·have h80_ := beq_f h80
                          refine qag (fun h83 => ?_) (fun h83 => ?_)
                          ·have h83_ := beq_t h83
                           refine ⟨by first | omega | exact (hp.2.2.1 (by assumption)) | (have g_ := hp.2.2.1 (by assumption); omega) | exact ((by have q := hp.2.2; unfold tydOK at q; omega)) | (have g_ := (by have q := hp.2.2; unfold tydOK at q; omega); omega) | assumption | exact hp.1 | exact hp.2 | exact hp.2.1 | (simp_all; done) | (simp_all; omega), fun _ => ?_⟩
                           exact fun _ => ⟨rfl, rfl⟩
                          ·have h83_ := beq_f h83
                           refine qag (fun h84 => ?_) (fun h84 => ?_)
                           ·have h84_ := beq_t h84
                            refine qag (fun h85 => ?_) (fun h85 => ⟨rfl, rfl⟩)
                            have h85_ := beq_t h85
                            refine ⟨by first | omega | exact (hp.2.2.1 (by assumption)) | (have g_ := hp.2.2.1 (by assumption); omega) | exact ((by have q := hp.2.2; unfold tydOK at q; omega)) | (have g_ := (by have q := hp.2.2; unfold tydOK at q; omega); omega) | assumption | exact hp.1 | exact hp.2 | exact hp.2.1 | (simp_all; done) | (simp_all; omega), fun _ => ?_⟩
                            exact ⟨trivial, fun _ => fun _ => ⟨rfl, rfl⟩⟩
                           ·have h84_ := beq_f h84
                            refine qag (fun h86 => ?_) (fun h86 => ?_)
                            ·refine qag (fun h87 => ?_) (fun h87 => ?_)
                             ·refine qag (fun h88 => ⟨trivial, fun _ => fun _ => ⟨rfl, rfl⟩⟩) (fun h88 => ?_)
                              have h89k : ((z in_.2.1) == (7 : Int)) = false := by rw [(beq_t h87)]; rfl
                              refine qag (fun h89 => absurd (h89k.symm.trans h89) (by decide)) (fun _ => ?_)
                              exact ⟨rfl, rfl⟩
                             ·refine qag (fun h90 => ?_) (fun h90 => ⟨rfl, rfl⟩)
                              refine qag (fun h91 => ⟨trivial, fun _ => fun _ => ⟨rfl, rfl⟩⟩) (fun h91 => ?_)
                              exact ⟨rfl, rfl⟩
                            ·have h86_ := beq_f h86
                             refine qag (fun h92 => ?_) (fun h92 => ⟨rfl, rfl⟩)
                             have h92_ := beq_t h92
                             refine ⟨by first | omega | exact (hp.2.2.1 (by assumption)) | (have g_ := hp.2.2.1 (by assumption); omega) | exact ((by have q := hp.2.2; unfold tydOK at q; omega)) | (have g_ := (by have q := hp.2.2; unfold tydOK at q; omega); omega) | assumption | exact hp.1 | exact hp.2 | exact hp.2.1 | (simp_all; done) | (simp_all; omega), fun _ => ?_⟩
                             exact ⟨trivial, fun _ => fun _ => ⟨rfl, rfl⟩⟩)
theorem c_opcode_typed : qal E_V13 qgn k_opcode_typed.spec := qan fun x hx hp => ⟨rfl, m_opcode_typed x.1 x.2.1 x.2.2.1 hx.1 hx.2.1 hx.2.2.1 hp⟩
def L_V13 : List (FuncId × FSpec) := [(qgn, k_opcode_typed.spec)] ++ L_V12
theorem L_V13_ok : ∀ x ∈ L_V13, qal (ctx []) x.1 x.2 := by
 unfold L_V13
 simp only [List.cons_append, List.nil_append, List.forall_mem_cons]
 exact ⟨c_opcode_typed, L_V12_ok⟩
end Burn.MM
namespace Burn.MM
open Go Go.BE Go.Proofs
set_option maxRecDepth 100000
set_option linter.unusedVariables false
set_option linter.unusedSimpArgs false
open Burn.Intn Burn.Ref
noncomputable abbrev E_V14 : Ctx := ctx L_V13
theorem E_V14_ok : EOK E_V14 := qch L_V13_ok
def cuts_V14 : CutL := [([], 40, 0, [3, 4, 5, 10, 35, 36, 37], [(.t 10, .own 8 I)], [])]
def rets_V14 : FuncId → List (Option Fx)
 | _ => []
def H_V14 : Hints := { cut := cutOf cuts_V14, ret := rets_V14 }
noncomputable def opcode_Check_L0 (in_ : Den qad) (f : Den qaa) (m : Den qah) (t35 : List (Den I)) (t36 : Int) (t37 : Int) (args : List (Den I)) : Cfg := hcfg E_V14 qdi 0 [(3, (.rtp qad in_)), (4, (.rtp qaa f)), (5, (.rtp qah m)), (10, (.osl 0 0 [] none)), (35, (.tv (.sl 8 I) t35)), (36, (vi t36)), (37, (vi t37))] [(0, ⟨(.arr 0 8 I args), 0, [], false, none⟩)] 1
theorem opcode_Check_t (in_ : Den qad) (f : Den qaa) (m : Den qah) : run E_V14 H_V14 qdi 3000 (start E_V14 qdi [(.tv qad in_), (.tv qaa f), (.tv qah m)]) = (.chk (True) (.know (okD .str (nameP in_.1)) (cond (((nameP in_.1)).toList == (ByteArray.empty).toList) (rt (vi (8 : Int)) []) (.chk (True) (.know (okD (.int .i64) (fldP in_)) (cond ((fldP in_) != (0 : Int)) (rt (vi (fldP in_)) []) (.chk (True) (.know (okD (.int .i64) (symP in_ m)) (cond ((symP in_ m) != (0 : Int)) (rt (vi (symP in_ m)) []) (.chk ((1 ≤ z in_.1 ∧ z in_.1 ≤ 33) ∧ symOK in_ m) (.know (okD (.int .i64) (cntP in_ m)) (cond ((cntP in_ m) != (0 : Int)) (rt (vi (cntP in_ m)) []) (hd (opcode_Check_L0 in_ f m in_.2.2.2.1 ((ln I in_.2.2.2.1) : Int) (0 : Int) ([] : List (Den I)))))))))))))))) := by kernel_rfl
theorem opcode_Check_L0_t (in_ : Den qad) (f : Den qaa) (m : Den qah) (t35 : List (Den I)) (t36 : Int) (t37 : Int) (args : List (Den I)) : run E_V14 H_V14 qdi 3000 (opcode_Check_L0 in_ f m t35 t36 t37 args) = (cond (decide (t37 < t36)) (.chk (0 ≤ t37 ∧ t37 < (ln I t35)) (cond (decide ((z (gd I t35 t37.toNat)) < (0 : Int))) (rt (vi (10 : Int)) []) (cond (decide ((z (gd I t35 t37.toNat)) ≥ ((ln I f.2.2.2.1) : Int))) (rt (vi (10 : Int)) []) (.chk (0 ≤ (z (gd I t35 t37.toNat)) ∧ (z (gd I t35 t37.toNat)) < (ln I f.2.2.2.1)) (.chk (((ln I args) + (1 : Nat)) * 8 ≤ roomB) (hd (opcode_Check_L0 in_ f m t35 t36 (IntKind.wrap .i64 (t37 + (1 : Int))) (ap I args ([(gd I f.2.2.2.1 (((z (gd I t35 t37.toNat))).toNat))] : List (Den I)))))))))) (cond (decide ((z in_.2.2.1) < (-1 : Int))) (rt (vi (10 : Int)) []) (cond (decide ((z in_.2.2.1) ≥ ((ln I f.2.2.2.1) : Int))) (rt (vi (10 : Int)) []) (.chk (1 ≤ z in_.1 ∧ z in_.1 ≤ 33 ∧ tydOK in_ args m) (.know True (cond (!(tydP in_ args m)) (rt (vi (9 : Int)) []) (.chk (-1 ≤ z in_.2.2.1 ∧ z in_.2.2.1 < (ln I f.2.2.2.1 : Nat)) (.know True (cond (!(resP in_ f)) (rt (vi (9 : Int)) []) (.chk (z in_.1 = 33 → 0 < ln I args) (.know (okD (.int .i64) (immP in_ args)) (rt (vi (immP in_ args)) [])))))))))))) := by kernel_rfl
def rowN (op : Int) : Int := z (gd qao rowsP (IntKind.wrap .i64 (op - 1)).toNat).2.1
def argT (f : Fn) (l : List (Den I)) (i : Nat) : List (Den I) := (l.take i).map fun r => gd I f.2.2.2.1 (z r).toNat
def argI (f : Fn) (l : List (Den I)) (i : Nat) : Int := cond (decide (z (gd I l i) < (0 : Int))) 10 (cond (decide (z (gd I l i) ≥ (ln I f.2.2.2.1 : Int))) 10 0)
def argE (f : Fn) (l : List (Den I)) : Int := qas (argI f l) (ln I l) 0
def chkT (x : Ins) (f : Fn) (m : Md) (args : List (Den I)) : Int := cond (decide (z x.2.2.1 < (-1 : Int))) 10 (cond (decide (z x.2.2.1 ≥ (ln I f.2.2.2.1 : Int))) 10 (cond (!(tydP x args m)) 9 (cond (!(resP x f)) 9 (immP x args))))
def chkF (x : Ins) (f : Fn) (m : Md) : Int := cond ((nameP x.1).toList == ByteArray.empty.toList) 8 (cond (fldP x != (0 : Int)) (fldP x) (cond (symP x m != (0 : Int)) (symP x m) (cond (cntP x m != (0 : Int)) (cntP x m) (orE (argE f x.2.2.2.1) (chkT x f m (argT f x.2.2.2.1 (ln I x.2.2.2.1)))))))
theorem argT_ln {f : Fn} {l : List (Den I)} {i : Nat} (h : i ≤ ln I l) : ln I (argT f l i) = i := by
 show ((l.take i).map _).length = i
 rw [List.length_map, List.length_take]
 exact Nat.min_eq_left h
theorem argT_ap {f : Fn} {l : List (Den I)} {i : Nat} (h : i < ln I l) : ap I (argT f l i) ([gd I f.2.2.2.1 (z (gd I l i)).toNat] : List (Den I)) = argT f l (i + 1) := by
 show (l.take i).map _ ++ [_] = (l.take (i + 1)).map _
 rw [List.take_succ_eq_append_getElem h, List.map_append]
 have hq : l[i]? = some l[i] := List.getElem?_eq_getElem h
 have hg : gd I l i = l[i] := by unfold gd; simp [hq]
 rw [hg]
 rfl
theorem name_in {op : Int} (h : ((nameP op).toList == ByteArray.empty.toList) = false) : 1 ≤ op ∧ op ≤ 33 := by
 unfold nameP at h
 have h33 : ln qao rowsP = 33 := rfl
 rw [h33] at h
 by_cases h1 : op < 1
 ·rw [decide_eq_true h1, cond_true] at h
  simp at h
 ·by_cases h2 : op > ((33 : Nat) : Int)
  ·rw [decide_eq_true h2, cond_true] at h
   cases hd : decide (op < 1) <;> rw [hd] at h <;> simp at h
  ·omega
theorem sym_ok {x : Ins} {m : Md} (h : (symP x m != (0 : Int)) = false) : symOK x m := by
 have h' : symP x m = 0 := by simpa using h
 unfold symP at h'
 simp only [Bool.cond_eq_ite, decide_eq_true_eq, beq_iff_eq] at h'
 unfold symOK
 constructor <;> intro h25
 ·rw [if_pos h25] at h'
  repeat' split at h'
  all_goals first | omega | simp_all
 ·rw [if_neg (by omega), if_pos h25] at h'
  repeat' split at h'
  all_goals first | omega | simp_all
theorem cnt_row {x : Ins} {m : Md} (h : (cntP x m != (0 : Int)) = false) : (z x.1 = 30 → (ln I x.2.2.2.1 : Int) = (ln I (gd qaa m.2.1 (z x.2.2.2.2.2.1).toNat).2.1 : Nat)) ∧ (z x.1 = 32 → (ln I x.2.2.2.1 : Int) = 2 ∨ (ln I x.2.2.2.1 : Int) = 4) ∧ (z x.1 ≠ 30 → z x.1 ≠ 32 → (ln I x.2.2.2.1 : Int) = rowN (z x.1)) := by
 have h' : cntP x m = 0 := by simpa using h
 unfold cntP at h'
 simp only [Bool.cond_eq_ite, decide_eq_true_eq, beq_iff_eq, bne_iff_ne, ne_eq, ite_not] at h'
 refine ⟨fun h1 => ?_, fun h1 => ?_, fun h1 h2 => ?_⟩
 ·rw [if_pos h1] at h'
  repeat' split at h'
  all_goals first | omega | simp_all
 ·rw [if_neg (by omega), if_pos h1] at h'
  repeat' split at h'
  all_goals first | omega | simp_all
 ·rw [if_neg h1, if_neg h2] at h'
  unfold rowN
  repeat' split at h'
  all_goals first | assumption | omega | simp_all
theorem typed_ok {x : Ins} {m : Md} (hs : symOK x m) (hc : (cntP x m != (0 : Int)) = false) {args : List (Den I)} (ha : ln I args = ln I x.2.2.2.1) : tydOK x args m := by
 have hr := cnt_row hc
 have r16 : rowN 16 = 2 := rfl
 have r17 : rowN 17 = 2 := rfl
 have r18 : rowN 18 = 2 := rfl
 have r19 : rowN 19 = 2 := rfl
 have r20 : rowN 20 = 2 := rfl
 have r21 : rowN 21 = 3 := rfl
 have r22 : rowN 22 = 1 := rfl
 have r23 : rowN 23 = 1 := rfl
 have r24 : rowN 24 = 1 := rfl
 have r27 : rowN 27 = 2 := rfl
 have r28 : rowN 28 = 1 := rfl
 have r29 : rowN 29 = 2 := rfl
 have r31 : rowN 31 = 1 := rfl
 have r33 : rowN 33 = 1 := rfl
 have hq : ∀ k n : Int, rowN k = n → z x.1 = k → k ≠ 30 → k ≠ 32 → (ln I args : Int) = n := fun k n h1 h2 h3 h4 => by
  have := hr.2.2 (by omega) (by omega)
  rw [h2, h1] at this
  omega
 have q16 := hq _ _ r16; have q17 := hq _ _ r17; have q18 := hq _ _ r18; have q19 := hq _ _ r19; have q20 := hq _ _ r20; have q21 := hq _ _ r21
 have q22 := hq _ _ r22; have q23 := hq _ _ r23; have q24 := hq _ _ r24; have q27 := hq _ _ r27; have q28 := hq _ _ r28; have q29 := hq _ _ r29; have q31 := hq _ _ r31; have q33 := hq _ _ r33
 refine ⟨fun h => ⟨hs.2 h, by have := hr.1 h; omega⟩, fun h => by omega, fun h => by omega, fun h => by omega⟩
theorem opcode_Check_l (x : Ins) (f : Fn) (m : Md) (hx : okD qad x) (h1 : 1 ≤ z x.1 ∧ z x.1 ≤ 33) (hs : symOK x m) (hc : (cntP x m != (0 : Int)) = false) : ∀ i, i ≤ ln I x.2.2.2.1 → RunI E_V14 (opcode_Check_L0 x f m x.2.2.2.1 (ln I x.2.2.2.1 : Nat) i (argT f x.2.2.2.1 i)) (orE (qas (argI f x.2.2.2.1) (ln I x.2.2.2.1 - i) i) (chkT x f m (argT f x.2.2.2.1 (ln I x.2.2.2.1)))) :=
 qci (.tree E_V14_ok (opcode_Check_L0_t _ _ _ _ _ _ _) (by
  rw [Nat.sub_self]
  simp only [sS, sL,  Nat.lt_irrefl, qas]
  have ha : ln I (argT f x.2.2.2.1 (ln I x.2.2.2.1)) = ln I x.2.2.2.1 := argT_ln (Nat.le_refl _)
  have ht := typed_ok hs hc ha
  refine ⟨fun q1 => ⟨congrArg vi (by simp only [orE, chkT, q1, cond_true]; rfl), rfl⟩, fun q1 => ⟨fun q2 => ⟨congrArg vi (by simp only [orE, chkT, q1, q2, cond_true, cond_false]; rfl), rfl⟩, fun q2 => ⟨⟨h1.1, h1.2, ht⟩, fun _ => ⟨fun q3 => ⟨congrArg vi (by simp only [orE, chkT, q1, q2, q3, cond_true, cond_false]; rfl), rfl⟩, fun q3 => ⟨⟨by simpa using q1, by simpa using q2⟩, fun _ => ⟨fun q4 => ⟨congrArg vi (by simp only [orE, chkT, q1, q2, q3, q4, cond_true, cond_false]; rfl), rfl⟩, fun q4 => ⟨fun q5 => by have := ht.2.2.2 (by omega); omega, fun _ _ => ⟨congrArg vi (by simp only [orE, chkT, q1, q2, q3, q4, cond_true, cond_false]; rfl), rfl⟩⟩⟩⟩⟩⟩⟩⟩))
  fun i hi ih => .tree E_V14_ok (opcode_Check_L0_t _ _ _ _ _ _ _) (by
   rw [sub1 hi]
   simp only [sS, sL,  hi, wrapS hi (qbj hx.2.2.2.1.1), argT_ln (Nat.le_of_lt hi), argT_ap hi]
   have hroom : (i + 1) * 8 ≤ roomB := by
    have : ln I x.2.2.2.1 * 8 ≤ roomB := hx.2.2.2.1.1.1
    omega
   refine ⟨fun q1 => ?_, fun q1 => ⟨fun q2 => ?_, fun q2 => ⟨⟨by simpa using q1, by simpa using q2⟩, fun _ => ⟨hroom, fun _ => ?_⟩⟩⟩⟩
   ·rw [first_hit (by simp only [argI, q1, cond_true]; decide), show argI f x.2.2.2.1 i = 10 by simp only [argI, q1, cond_true]]
    exact ⟨rfl, rfl⟩
   ·rw [first_hit (by simp only [argI, q1, q2, cond_true, cond_false]; decide), show argI f x.2.2.2.1 i = 10 by simp only [argI, q1, q2, cond_true, cond_false]]
    exact ⟨rfl, rfl⟩
   ·rw [first_miss (by simp only [argI, q1, q2, cond_false])]
    exact ih)
def k_opcode_Check : Con := con [.d qad, .d qaa, .d qah] I (fun x => True) fun x => chkF x.1 x.2.1 x.2.2.1
theorem m_opcode_Check (in_ : Den qad) (f : Den qaa) (m : Den qah) (h_in_ : okD qad in_) (h_f : okD qaa f) (h_m : okD qah m) (hp : True) : Runs E_V14 (start E_V14 qdi [(.tv qad in_), (.tv qaa f), (.tv qah m)]) (fun r_ h_ => r_ = (vi (chkF in_ f m)) ∧ h_ = []) := .tree E_V14_ok (opcode_Check_t in_ f m) (by
 unfold chkF
 simp only [sS]
 refine fun _ => ⟨fun q1 => by rw [q1]; rfl, fun q1 => ?_⟩
 have h1 := name_in q1
 rw [q1]
 refine fun _ => ⟨fun q2 => by rw [q2]; rfl, fun q2 => ?_⟩
 rw [q2]
 refine fun _ => ⟨fun q3 => by rw [q3]; rfl, fun q3 => ?_⟩
 have hs := sym_ok q3
 rw [q3]
 refine ⟨⟨h1, hs⟩, fun _ _ => ⟨fun q4 => by rw [q4]; rfl, fun q4 => ?_⟩⟩
 rw [q4]
 exact opcode_Check_l in_ f m h_in_ h1 hs q4 0 (Nat.zero_le _))
theorem c_opcode_Check : qal E_V14 qdi k_opcode_Check.spec := qan fun x hx hp => ⟨rfl, m_opcode_Check x.1 x.2.1 x.2.2.1 hx.1 hx.2.1 hx.2.2.1 hp⟩
def L_V14 : List (FuncId × FSpec) := [(qdi, k_opcode_Check.spec)] ++ L_V13
theorem L_V14_ok : ∀ x ∈ L_V14, qal (ctx []) x.1 x.2 := by
 unfold L_V14
 simp only [List.cons_append, List.nil_append, List.forall_mem_cons]
 exact ⟨c_opcode_Check, L_V13_ok⟩
end Burn.MM
