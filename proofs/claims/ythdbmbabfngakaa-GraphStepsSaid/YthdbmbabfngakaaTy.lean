/- What the program's table says of its types: facts for the engine. Written by genty.py out of the translation. -/
import Derived.Test.YthdbmbabfngakaaE8
import Derived.Test.YthdbmbabfngakaaProg
import Derived.KernelRfl
namespace Go.Proofs.Ythdbmbabfngakaa.T
open Go Go.Eng Go.Proofs
theorem ty1 : ty Try.prog 1 = some ⟨(.func #[] #[] false), 1, 8, .nilFunc⟩ := ty_mk Try.underlying1 (by kernel_rfl)
theorem ty2 : ty Try.prog 2 = some ⟨(.int .i64), 1, 8, (.int .i64 0)⟩ := ty_mk Try.underlying2 (by kernel_rfl)
theorem ty3 : ty Try.prog 3 = some ⟨(.int .i64), 1, 8, (.int .i64 0)⟩ := ty_mk Try.underlying3 (by kernel_rfl)
theorem ty4 : ty Try.prog 4 = some ⟨.bool, 1, 1, (.bool false)⟩ := ty_mk Try.underlying4 (by kernel_rfl)
theorem ty5 : ty Try.prog 5 = some ⟨(.int .u8), 1, 1, (.int .u8 0)⟩ := ty_mk Try.underlying5 (by kernel_rfl)
theorem ty6 : ty Try.prog 6 = some ⟨(.int .u8), 1, 1, (.int .u8 0)⟩ := ty_mk Try.underlying6 (by kernel_rfl)
theorem ty7 : ty Try.prog 7 = some ⟨(.struct #[{ name := "x", type := 2, offset := 0, embedded := false, tag := "", pkgPath := "runtime", byteOffset := 0 }, { name := "y", type := 3, offset := 1, embedded := false, tag := "", pkgPath := "runtime", byteOffset := 8 }, { name := "signed", type := 4, offset := 2, embedded := false, tag := "", pkgPath := "runtime", byteOffset := 16 }, { name := "code", type := 6, offset := 3, embedded := false, tag := "", pkgPath := "runtime", byteOffset := 17 }]), 4, 24, (.agg #[(.int .i64 0), (.int .i64 0), (.bool false), (.int .u8 0)])⟩ := ty_mk Try.underlying7 (by kernel_rfl)
theorem ty8 : ty Try.prog 8 = some ⟨(.struct #[{ name := "x", type := 2, offset := 0, embedded := false, tag := "", pkgPath := "runtime", byteOffset := 0 }, { name := "y", type := 3, offset := 1, embedded := false, tag := "", pkgPath := "runtime", byteOffset := 8 }, { name := "signed", type := 4, offset := 2, embedded := false, tag := "", pkgPath := "runtime", byteOffset := 16 }, { name := "code", type := 6, offset := 3, embedded := false, tag := "", pkgPath := "runtime", byteOffset := 17 }]), 4, 24, (.agg #[(.int .i64 0), (.int .i64 0), (.bool false), (.int .u8 0)])⟩ := ty_mk Try.underlying8 (by kernel_rfl)
theorem ty9 : ty Try.prog 9 = some ⟨.string, 1, 16, (.string ⟨#[]⟩)⟩ := ty_mk Try.underlying9 (by kernel_rfl)
theorem ty10 : ty Try.prog 10 = some ⟨.string, 1, 16, (.string ⟨#[]⟩)⟩ := ty_mk Try.underlying10 (by kernel_rfl)
theorem ty11 : ty Try.prog 11 = some ⟨.string, 1, 16, (.string ⟨#[]⟩)⟩ := ty_mk Try.underlying11 (by kernel_rfl)
theorem ty12 : ty Try.prog 12 = some ⟨(.int .u64), 1, 8, (.int .u64 0)⟩ := ty_mk Try.underlying12 (by kernel_rfl)
theorem ty13 : ty Try.prog 13 = some ⟨(.struct #[{ name := "msg", type := 9, offset := 0, embedded := false, tag := "", pkgPath := "runtime", byteOffset := 0 }, { name := "addr", type := 12, offset := 1, embedded := false, tag := "", pkgPath := "runtime", byteOffset := 16 }]), 2, 24, (.agg #[(.string ⟨#[]⟩), (.int .u64 0)])⟩ := ty_mk Try.underlying13 (by kernel_rfl)
theorem ty14 : ty Try.prog 14 = some ⟨(.struct #[{ name := "msg", type := 9, offset := 0, embedded := false, tag := "", pkgPath := "runtime", byteOffset := 0 }, { name := "addr", type := 12, offset := 1, embedded := false, tag := "", pkgPath := "runtime", byteOffset := 16 }]), 2, 24, (.agg #[(.string ⟨#[]⟩), (.int .u64 0)])⟩ := ty_mk Try.underlying14 (by kernel_rfl)
theorem ty15 : ty Try.prog 15 = some ⟨(.pointer 58), 1, 8, (.pointer none)⟩ := ty_mk Try.underlying15 (by kernel_rfl)
theorem ty16 : ty Try.prog 16 = some ⟨(.pointer 61), 1, 8, (.pointer none)⟩ := ty_mk Try.underlying16 (by kernel_rfl)
theorem ty17 : ty Try.prog 17 = some ⟨(.pointer 71), 1, 8, (.pointer none)⟩ := ty_mk Try.underlying17 (by kernel_rfl)
theorem ty18 : ty Try.prog 18 = some ⟨(.struct #[{ name := "typ", type := 17, offset := 0, embedded := false, tag := "", pkgPath := "internal/runtime/maps", byteOffset := 0 }]), 1, 8, (.agg #[(.pointer none)])⟩ := ty_mk Try.underlying18 (by kernel_rfl)
theorem ty19 : ty Try.prog 19 = some ⟨(.struct #[{ name := "typ", type := 17, offset := 0, embedded := false, tag := "", pkgPath := "internal/runtime/maps", byteOffset := 0 }]), 1, 8, (.agg #[(.pointer none)])⟩ := ty_mk Try.underlying19 (by kernel_rfl)
theorem ty20 : ty Try.prog 20 = some ⟨(.interface #[]), 1, 16, .nilIface⟩ := ty_mk Try.underlying20 (by kernel_rfl)
theorem ty21 : ty Try.prog 21 = some ⟨(.int .i32), 1, 4, (.int .i32 0)⟩ := ty_mk Try.underlying21 (by kernel_rfl)
theorem ty22 : ty Try.prog 22 = some ⟨(.slice 3), 1, 24, (.slice none 0 0)⟩ := ty_mk Try.underlying22 (by kernel_rfl)
theorem ty23 : ty Try.prog 23 = some ⟨(.slice 34), 1, 24, (.slice none 0 0)⟩ := ty_mk Try.underlying23 (by kernel_rfl)
theorem ty24 : ty Try.prog 24 = some ⟨(.struct #[{ name := "Roots", type := 22, offset := 0, embedded := false, tag := "", pkgPath := "", byteOffset := 0 }, { name := "Nodes", type := 23, offset := 1, embedded := false, tag := "", pkgPath := "", byteOffset := 24 }]), 2, 48, (.agg #[(.slice none 0 0), (.slice none 0 0)])⟩ := ty_mk Try.underlying24 (by kernel_rfl)
theorem ty25 : ty Try.prog 25 = some ⟨(.struct #[{ name := "Roots", type := 22, offset := 0, embedded := false, tag := "", pkgPath := "", byteOffset := 0 }, { name := "Nodes", type := 23, offset := 1, embedded := false, tag := "", pkgPath := "", byteOffset := 24 }]), 2, 48, (.agg #[(.slice none 0 0), (.slice none 0 0)])⟩ := ty_mk Try.underlying25 (by kernel_rfl)
theorem ty26 : ty Try.prog 26 = some ⟨(.func #[25] #[25] false), 1, 8, .nilFunc⟩ := ty_mk Try.underlying26 (by kernel_rfl)
theorem ty27 : ty Try.prog 27 = some ⟨(.func #[] #[4] false), 1, 8, .nilFunc⟩ := ty_mk Try.underlying27 (by kernel_rfl)
theorem ty28 : ty Try.prog 28 = some ⟨(.func #[25, 25] #[4] false), 1, 8, .nilFunc⟩ := ty_mk Try.underlying28 (by kernel_rfl)
theorem ty29 : ty Try.prog 29 = some ⟨(.func #[25] #[4] false), 1, 8, .nilFunc⟩ := ty_mk Try.underlying29 (by kernel_rfl)
theorem ty30 : ty Try.prog 30 = some ⟨(.func #[25] #[3] false), 1, 8, .nilFunc⟩ := ty_mk Try.underlying30 (by kernel_rfl)
theorem ty31 : ty Try.prog 31 = some ⟨(.func #[22] #[22] false), 1, 8, .nilFunc⟩ := ty_mk Try.underlying31 (by kernel_rfl)
theorem ty32 : ty Try.prog 32 = some ⟨(.slice 40), 1, 24, (.slice none 0 0)⟩ := ty_mk Try.underlying32 (by kernel_rfl)
theorem ty33 : ty Try.prog 33 = some ⟨(.struct #[{ name := "Kind", type := 3, offset := 0, embedded := false, tag := "", pkgPath := "", byteOffset := 0 }, { name := "Info", type := 3, offset := 1, embedded := false, tag := "", pkgPath := "", byteOffset := 8 }, { name := "Nons", type := 32, offset := 2, embedded := false, tag := "", pkgPath := "", byteOffset := 16 }, { name := "Kids", type := 22, offset := 3, embedded := false, tag := "", pkgPath := "", byteOffset := 40 }]), 4, 64, (.agg #[(.int .i64 0), (.int .i64 0), (.slice none 0 0), (.slice none 0 0)])⟩ := ty_mk Try.underlying33 (by kernel_rfl)
theorem ty34 : ty Try.prog 34 = some ⟨(.struct #[{ name := "Kind", type := 3, offset := 0, embedded := false, tag := "", pkgPath := "", byteOffset := 0 }, { name := "Info", type := 3, offset := 1, embedded := false, tag := "", pkgPath := "", byteOffset := 8 }, { name := "Nons", type := 32, offset := 2, embedded := false, tag := "", pkgPath := "", byteOffset := 16 }, { name := "Kids", type := 22, offset := 3, embedded := false, tag := "", pkgPath := "", byteOffset := 40 }]), 4, 64, (.agg #[(.int .i64 0), (.int .i64 0), (.slice none 0 0), (.slice none 0 0)])⟩ := ty_mk Try.underlying34 (by kernel_rfl)
theorem ty35 : ty Try.prog 35 = some ⟨(.func #[25, 5] #[4] false), 1, 8, .nilFunc⟩ := ty_mk Try.underlying35 (by kernel_rfl)
theorem ty36 : ty Try.prog 36 = some ⟨(.func #[25, 3] #[3] false), 1, 8, .nilFunc⟩ := ty_mk Try.underlying36 (by kernel_rfl)
theorem ty37 : ty Try.prog 37 = some ⟨(.slice 38), 1, 24, (.slice none 0 0)⟩ := ty_mk Try.underlying37 (by kernel_rfl)
theorem ty38 : ty Try.prog 38 = some ⟨(.int .u16), 1, 2, (.int .u16 0)⟩ := ty_mk Try.underlying38 (by kernel_rfl)
theorem ty39 : ty Try.prog 39 = some ⟨(.func #[25, 37] #[4] false), 1, 8, .nilFunc⟩ := ty_mk Try.underlying39 (by kernel_rfl)
theorem ty40 : ty Try.prog 40 = some ⟨(.int .u64), 1, 8, (.int .u64 0)⟩ := ty_mk Try.underlying40 (by kernel_rfl)
theorem ty41 : ty Try.prog 41 = some ⟨(.func #[25, 25, 22, 22] #[4] false), 1, 8, .nilFunc⟩ := ty_mk Try.underlying41 (by kernel_rfl)
theorem ty42 : ty Try.prog 42 = some ⟨(.pointer 47), 1, 8, (.pointer none)⟩ := ty_mk Try.underlying42 (by kernel_rfl)
theorem ty43 : ty Try.prog 43 = some ⟨(.map 3 3), 1, 8, (.map none)⟩ := ty_mk Try.underlying43 (by kernel_rfl)
theorem ty44 : ty Try.prog 44 = some ⟨(.func #[25, 22] #[22] false), 1, 8, .nilFunc⟩ := ty_mk Try.underlying44 (by kernel_rfl)
theorem ty45 : ty Try.prog 45 = some ⟨(.func #[3] #[22] false), 1, 8, .nilFunc⟩ := ty_mk Try.underlying45 (by kernel_rfl)
theorem ty46 : ty Try.prog 46 = some ⟨(.struct #[{ name := "num", type := 43, offset := 0, embedded := false, tag := "", pkgPath := "midden/graph", byteOffset := 0 }, { name := "all", type := 22, offset := 1, embedded := false, tag := "", pkgPath := "midden/graph", byteOffset := 8 }, { name := "kids", type := 45, offset := 2, embedded := false, tag := "", pkgPath := "midden/graph", byteOffset := 32 }]), 3, 40, (.agg #[(.map none), (.slice none 0 0), .nilFunc])⟩ := ty_mk Try.underlying46 (by kernel_rfl)
theorem ty47 : ty Try.prog 47 = some ⟨(.struct #[{ name := "num", type := 43, offset := 0, embedded := false, tag := "", pkgPath := "midden/graph", byteOffset := 0 }, { name := "all", type := 22, offset := 1, embedded := false, tag := "", pkgPath := "midden/graph", byteOffset := 8 }, { name := "kids", type := 45, offset := 2, embedded := false, tag := "", pkgPath := "midden/graph", byteOffset := 32 }]), 3, 40, (.agg #[(.map none), (.slice none 0 0), .nilFunc])⟩ := ty_mk Try.underlying47 (by kernel_rfl)
theorem ty48 : ty Try.prog 48 = some ⟨(.func #[22] #[] false), 1, 8, .nilFunc⟩ := ty_mk Try.underlying48 (by kernel_rfl)
theorem ty49 : ty Try.prog 49 = some ⟨(.slice 4), 1, 24, (.slice none 0 0)⟩ := ty_mk Try.underlying49 (by kernel_rfl)
theorem ty50 : ty Try.prog 50 = some ⟨(.func #[25, 3, 22, 49] #[22] false), 1, 8, .nilFunc⟩ := ty_mk Try.underlying50 (by kernel_rfl)
theorem ty51 : ty Try.prog 51 = some ⟨(.func #[25, 22, 22] #[22] false), 1, 8, .nilFunc⟩ := ty_mk Try.underlying51 (by kernel_rfl)
theorem ty52 : ty Try.prog 52 = some ⟨(.func #[22, 22] #[4] false), 1, 8, .nilFunc⟩ := ty_mk Try.underlying52 (by kernel_rfl)
theorem ty53 : ty Try.prog 53 = some ⟨(.func #[32, 32] #[4] false), 1, 8, .nilFunc⟩ := ty_mk Try.underlying53 (by kernel_rfl)
theorem ty54 : ty Try.prog 54 = some ⟨(.slice 22), 1, 24, (.slice none 0 0)⟩ := ty_mk Try.underlying54 (by kernel_rfl)
theorem ty56 : ty Try.prog 56 = some ⟨(.func #[] #[9] false), 1, 8, .nilFunc⟩ := ty_mk Try.underlying56 (by kernel_rfl)
theorem ty57 : ty Try.prog 57 = some ⟨(.struct #[{ name := "_interface", type := 17, offset := 0, embedded := false, tag := "", pkgPath := "runtime", byteOffset := 0 }, { name := "concrete", type := 17, offset := 1, embedded := false, tag := "", pkgPath := "runtime", byteOffset := 8 }, { name := "asserted", type := 17, offset := 2, embedded := false, tag := "", pkgPath := "runtime", byteOffset := 16 }, { name := "missingMethod", type := 9, offset := 3, embedded := false, tag := "", pkgPath := "runtime", byteOffset := 24 }]), 4, 40, (.agg #[(.pointer none), (.pointer none), (.pointer none), (.string ⟨#[]⟩)])⟩ := ty_mk Try.underlying57 (by kernel_rfl)
theorem ty58 : ty Try.prog 58 = some ⟨(.struct #[{ name := "_interface", type := 17, offset := 0, embedded := false, tag := "", pkgPath := "runtime", byteOffset := 0 }, { name := "concrete", type := 17, offset := 1, embedded := false, tag := "", pkgPath := "runtime", byteOffset := 8 }, { name := "asserted", type := 17, offset := 2, embedded := false, tag := "", pkgPath := "runtime", byteOffset := 16 }, { name := "missingMethod", type := 9, offset := 3, embedded := false, tag := "", pkgPath := "runtime", byteOffset := 24 }]), 4, 40, (.agg #[(.pointer none), (.pointer none), (.pointer none), (.string ⟨#[]⟩)])⟩ := ty_mk Try.underlying58 (by kernel_rfl)
theorem ty59 : ty Try.prog 59 = some ⟨(.array 0 16), 0, 0, (.agg #[])⟩ := ty_mk Try.underlying59 (by kernel_rfl)
theorem ty60 : ty Try.prog 60 = some ⟨(.struct #[{ name := "_", type := 59, offset := 0, embedded := false, tag := "", pkgPath := "runtime", byteOffset := 0 }]), 0, 0, (.agg #[])⟩ := ty_mk Try.underlying60 (by kernel_rfl)
theorem ty61 : ty Try.prog 61 = some ⟨(.struct #[{ name := "_", type := 59, offset := 0, embedded := false, tag := "", pkgPath := "runtime", byteOffset := 0 }]), 0, 0, (.agg #[])⟩ := ty_mk Try.underlying61 (by kernel_rfl)
theorem ty62 : ty Try.prog 62 = some ⟨(.func #[] #[3] false), 1, 8, .nilFunc⟩ := ty_mk Try.underlying62 (by kernel_rfl)
theorem ty63 : ty Try.prog 63 = some ⟨(.int .u32), 1, 4, (.int .u32 0)⟩ := ty_mk Try.underlying63 (by kernel_rfl)
theorem ty64 : ty Try.prog 64 = some ⟨(.int .u8), 1, 1, (.int .u8 0)⟩ := ty_mk Try.underlying64 (by kernel_rfl)
theorem ty65 : ty Try.prog 65 = some ⟨(.int .u8), 1, 1, (.int .u8 0)⟩ := ty_mk Try.underlying65 (by kernel_rfl)
theorem ty66 : ty Try.prog 66 = some ⟨(.func #[72, 72] #[4] false), 1, 8, .nilFunc⟩ := ty_mk Try.underlying66 (by kernel_rfl)
theorem ty67 : ty Try.prog 67 = some ⟨(.pointer 5), 1, 8, (.pointer none)⟩ := ty_mk Try.underlying67 (by kernel_rfl)
theorem ty68 : ty Try.prog 68 = some ⟨(.int .i32), 1, 4, (.int .i32 0)⟩ := ty_mk Try.underlying68 (by kernel_rfl)
theorem ty69 : ty Try.prog 69 = some ⟨(.int .i32), 1, 4, (.int .i32 0)⟩ := ty_mk Try.underlying69 (by kernel_rfl)
theorem ty70 : ty Try.prog 70 = some ⟨(.struct #[{ name := "Size_", type := 12, offset := 0, embedded := false, tag := "", pkgPath := "", byteOffset := 0 }, { name := "PtrBytes", type := 12, offset := 1, embedded := false, tag := "", pkgPath := "", byteOffset := 8 }, { name := "Hash", type := 63, offset := 2, embedded := false, tag := "", pkgPath := "", byteOffset := 16 }, { name := "TFlag", type := 64, offset := 3, embedded := false, tag := "", pkgPath := "", byteOffset := 20 }, { name := "Align_", type := 5, offset := 4, embedded := false, tag := "", pkgPath := "", byteOffset := 21 }, { name := "FieldAlign_", type := 5, offset := 5, embedded := false, tag := "", pkgPath := "", byteOffset := 22 }, { name := "Kind_", type := 65, offset := 6, embedded := false, tag := "", pkgPath := "", byteOffset := 23 }, { name := "Equal", type := 66, offset := 7, embedded := false, tag := "", pkgPath := "", byteOffset := 24 }, { name := "GCData", type := 67, offset := 8, embedded := false, tag := "", pkgPath := "", byteOffset := 32 }, { name := "Str", type := 68, offset := 9, embedded := false, tag := "", pkgPath := "", byteOffset := 40 }, { name := "PtrToThis", type := 69, offset := 10, embedded := false, tag := "", pkgPath := "", byteOffset := 44 }]), 11, 48, (.agg #[(.int .u64 0), (.int .u64 0), (.int .u32 0), (.int .u8 0), (.int .u8 0), (.int .u8 0), (.int .u8 0), .nilFunc, (.pointer none), (.int .i32 0), (.int .i32 0)])⟩ := ty_mk Try.underlying70 (by kernel_rfl)
theorem ty71 : ty Try.prog 71 = some ⟨(.struct #[{ name := "Size_", type := 12, offset := 0, embedded := false, tag := "", pkgPath := "", byteOffset := 0 }, { name := "PtrBytes", type := 12, offset := 1, embedded := false, tag := "", pkgPath := "", byteOffset := 8 }, { name := "Hash", type := 63, offset := 2, embedded := false, tag := "", pkgPath := "", byteOffset := 16 }, { name := "TFlag", type := 64, offset := 3, embedded := false, tag := "", pkgPath := "", byteOffset := 20 }, { name := "Align_", type := 5, offset := 4, embedded := false, tag := "", pkgPath := "", byteOffset := 21 }, { name := "FieldAlign_", type := 5, offset := 5, embedded := false, tag := "", pkgPath := "", byteOffset := 22 }, { name := "Kind_", type := 65, offset := 6, embedded := false, tag := "", pkgPath := "", byteOffset := 23 }, { name := "Equal", type := 66, offset := 7, embedded := false, tag := "", pkgPath := "", byteOffset := 24 }, { name := "GCData", type := 67, offset := 8, embedded := false, tag := "", pkgPath := "", byteOffset := 32 }, { name := "Str", type := 68, offset := 9, embedded := false, tag := "", pkgPath := "", byteOffset := 40 }, { name := "PtrToThis", type := 69, offset := 10, embedded := false, tag := "", pkgPath := "", byteOffset := 44 }]), 11, 48, (.agg #[(.int .u64 0), (.int .u64 0), (.int .u32 0), (.int .u8 0), (.int .u8 0), (.int .u8 0), (.int .u8 0), .nilFunc, (.pointer none), (.int .i32 0), (.int .i32 0)])⟩ := ty_mk Try.underlying71 (by kernel_rfl)
theorem fd7_0 : fdAt Try.prog 7 0 = some (0, ⟨(.int .i64), 1, 8, (.int .i64 0)⟩) := fdAt_mk Try.underlying7 rfl ty2
theorem fd7_1 : fdAt Try.prog 7 1 = some (1, ⟨(.int .i64), 1, 8, (.int .i64 0)⟩) := fdAt_mk Try.underlying7 rfl ty3
theorem fd7_2 : fdAt Try.prog 7 2 = some (2, ⟨.bool, 1, 1, (.bool false)⟩) := fdAt_mk Try.underlying7 rfl ty4
theorem fd7_3 : fdAt Try.prog 7 3 = some (3, ⟨(.int .u8), 1, 1, (.int .u8 0)⟩) := fdAt_mk Try.underlying7 rfl ty6
theorem fd8_0 : fdAt Try.prog 8 0 = some (0, ⟨(.int .i64), 1, 8, (.int .i64 0)⟩) := fdAt_mk Try.underlying8 rfl ty2
theorem fd8_1 : fdAt Try.prog 8 1 = some (1, ⟨(.int .i64), 1, 8, (.int .i64 0)⟩) := fdAt_mk Try.underlying8 rfl ty3
theorem fd8_2 : fdAt Try.prog 8 2 = some (2, ⟨.bool, 1, 1, (.bool false)⟩) := fdAt_mk Try.underlying8 rfl ty4
theorem fd8_3 : fdAt Try.prog 8 3 = some (3, ⟨(.int .u8), 1, 1, (.int .u8 0)⟩) := fdAt_mk Try.underlying8 rfl ty6
theorem fd13_0 : fdAt Try.prog 13 0 = some (0, ⟨.string, 1, 16, (.string ⟨#[]⟩)⟩) := fdAt_mk Try.underlying13 rfl ty9
theorem fd13_1 : fdAt Try.prog 13 1 = some (1, ⟨(.int .u64), 1, 8, (.int .u64 0)⟩) := fdAt_mk Try.underlying13 rfl ty12
theorem fd14_0 : fdAt Try.prog 14 0 = some (0, ⟨.string, 1, 16, (.string ⟨#[]⟩)⟩) := fdAt_mk Try.underlying14 rfl ty9
theorem fd14_1 : fdAt Try.prog 14 1 = some (1, ⟨(.int .u64), 1, 8, (.int .u64 0)⟩) := fdAt_mk Try.underlying14 rfl ty12
theorem fd18_0 : fdAt Try.prog 18 0 = some (0, ⟨(.pointer 71), 1, 8, (.pointer none)⟩) := fdAt_mk Try.underlying18 rfl ty17
theorem fd19_0 : fdAt Try.prog 19 0 = some (0, ⟨(.pointer 71), 1, 8, (.pointer none)⟩) := fdAt_mk Try.underlying19 rfl ty17
theorem fd24_0 : fdAt Try.prog 24 0 = some (0, ⟨(.slice 3), 1, 24, (.slice none 0 0)⟩) := fdAt_mk Try.underlying24 rfl ty22
theorem fd24_1 : fdAt Try.prog 24 1 = some (1, ⟨(.slice 34), 1, 24, (.slice none 0 0)⟩) := fdAt_mk Try.underlying24 rfl ty23
theorem fd25_0 : fdAt Try.prog 25 0 = some (0, ⟨(.slice 3), 1, 24, (.slice none 0 0)⟩) := fdAt_mk Try.underlying25 rfl ty22
theorem fd25_1 : fdAt Try.prog 25 1 = some (1, ⟨(.slice 34), 1, 24, (.slice none 0 0)⟩) := fdAt_mk Try.underlying25 rfl ty23
theorem fd33_0 : fdAt Try.prog 33 0 = some (0, ⟨(.int .i64), 1, 8, (.int .i64 0)⟩) := fdAt_mk Try.underlying33 rfl ty3
theorem fd33_1 : fdAt Try.prog 33 1 = some (1, ⟨(.int .i64), 1, 8, (.int .i64 0)⟩) := fdAt_mk Try.underlying33 rfl ty3
theorem fd33_2 : fdAt Try.prog 33 2 = some (2, ⟨(.slice 40), 1, 24, (.slice none 0 0)⟩) := fdAt_mk Try.underlying33 rfl ty32
theorem fd33_3 : fdAt Try.prog 33 3 = some (3, ⟨(.slice 3), 1, 24, (.slice none 0 0)⟩) := fdAt_mk Try.underlying33 rfl ty22
theorem fd34_0 : fdAt Try.prog 34 0 = some (0, ⟨(.int .i64), 1, 8, (.int .i64 0)⟩) := fdAt_mk Try.underlying34 rfl ty3
theorem fd34_1 : fdAt Try.prog 34 1 = some (1, ⟨(.int .i64), 1, 8, (.int .i64 0)⟩) := fdAt_mk Try.underlying34 rfl ty3
theorem fd34_2 : fdAt Try.prog 34 2 = some (2, ⟨(.slice 40), 1, 24, (.slice none 0 0)⟩) := fdAt_mk Try.underlying34 rfl ty32
theorem fd34_3 : fdAt Try.prog 34 3 = some (3, ⟨(.slice 3), 1, 24, (.slice none 0 0)⟩) := fdAt_mk Try.underlying34 rfl ty22
theorem fd46_0 : fdAt Try.prog 46 0 = some (0, ⟨(.map 3 3), 1, 8, (.map none)⟩) := fdAt_mk Try.underlying46 rfl ty43
theorem fd46_1 : fdAt Try.prog 46 1 = some (1, ⟨(.slice 3), 1, 24, (.slice none 0 0)⟩) := fdAt_mk Try.underlying46 rfl ty22
theorem fd46_2 : fdAt Try.prog 46 2 = some (2, ⟨(.func #[3] #[22] false), 1, 8, .nilFunc⟩) := fdAt_mk Try.underlying46 rfl ty45
theorem fd47_0 : fdAt Try.prog 47 0 = some (0, ⟨(.map 3 3), 1, 8, (.map none)⟩) := fdAt_mk Try.underlying47 rfl ty43
theorem fd47_1 : fdAt Try.prog 47 1 = some (1, ⟨(.slice 3), 1, 24, (.slice none 0 0)⟩) := fdAt_mk Try.underlying47 rfl ty22
theorem fd47_2 : fdAt Try.prog 47 2 = some (2, ⟨(.func #[3] #[22] false), 1, 8, .nilFunc⟩) := fdAt_mk Try.underlying47 rfl ty45
theorem fd57_0 : fdAt Try.prog 57 0 = some (0, ⟨(.pointer 71), 1, 8, (.pointer none)⟩) := fdAt_mk Try.underlying57 rfl ty17
theorem fd57_1 : fdAt Try.prog 57 1 = some (1, ⟨(.pointer 71), 1, 8, (.pointer none)⟩) := fdAt_mk Try.underlying57 rfl ty17
theorem fd57_2 : fdAt Try.prog 57 2 = some (2, ⟨(.pointer 71), 1, 8, (.pointer none)⟩) := fdAt_mk Try.underlying57 rfl ty17
theorem fd57_3 : fdAt Try.prog 57 3 = some (3, ⟨.string, 1, 16, (.string ⟨#[]⟩)⟩) := fdAt_mk Try.underlying57 rfl ty9
theorem fd58_0 : fdAt Try.prog 58 0 = some (0, ⟨(.pointer 71), 1, 8, (.pointer none)⟩) := fdAt_mk Try.underlying58 rfl ty17
theorem fd58_1 : fdAt Try.prog 58 1 = some (1, ⟨(.pointer 71), 1, 8, (.pointer none)⟩) := fdAt_mk Try.underlying58 rfl ty17
theorem fd58_2 : fdAt Try.prog 58 2 = some (2, ⟨(.pointer 71), 1, 8, (.pointer none)⟩) := fdAt_mk Try.underlying58 rfl ty17
theorem fd58_3 : fdAt Try.prog 58 3 = some (3, ⟨.string, 1, 16, (.string ⟨#[]⟩)⟩) := fdAt_mk Try.underlying58 rfl ty9
theorem fd60_0 : fdAt Try.prog 60 0 = some (0, ⟨(.array 0 16), 0, 0, (.agg #[])⟩) := fdAt_mk Try.underlying60 rfl ty59
theorem fd61_0 : fdAt Try.prog 61 0 = some (0, ⟨(.array 0 16), 0, 0, (.agg #[])⟩) := fdAt_mk Try.underlying61 rfl ty59
theorem fd70_0 : fdAt Try.prog 70 0 = some (0, ⟨(.int .u64), 1, 8, (.int .u64 0)⟩) := fdAt_mk Try.underlying70 rfl ty12
theorem fd70_1 : fdAt Try.prog 70 1 = some (1, ⟨(.int .u64), 1, 8, (.int .u64 0)⟩) := fdAt_mk Try.underlying70 rfl ty12
theorem fd70_2 : fdAt Try.prog 70 2 = some (2, ⟨(.int .u32), 1, 4, (.int .u32 0)⟩) := fdAt_mk Try.underlying70 rfl ty63
theorem fd70_3 : fdAt Try.prog 70 3 = some (3, ⟨(.int .u8), 1, 1, (.int .u8 0)⟩) := fdAt_mk Try.underlying70 rfl ty64
theorem fd70_4 : fdAt Try.prog 70 4 = some (4, ⟨(.int .u8), 1, 1, (.int .u8 0)⟩) := fdAt_mk Try.underlying70 rfl ty5
theorem fd70_5 : fdAt Try.prog 70 5 = some (5, ⟨(.int .u8), 1, 1, (.int .u8 0)⟩) := fdAt_mk Try.underlying70 rfl ty5
theorem fd70_6 : fdAt Try.prog 70 6 = some (6, ⟨(.int .u8), 1, 1, (.int .u8 0)⟩) := fdAt_mk Try.underlying70 rfl ty65
theorem fd70_7 : fdAt Try.prog 70 7 = some (7, ⟨(.func #[72, 72] #[4] false), 1, 8, .nilFunc⟩) := fdAt_mk Try.underlying70 rfl ty66
theorem fd70_8 : fdAt Try.prog 70 8 = some (8, ⟨(.pointer 5), 1, 8, (.pointer none)⟩) := fdAt_mk Try.underlying70 rfl ty67
theorem fd70_9 : fdAt Try.prog 70 9 = some (9, ⟨(.int .i32), 1, 4, (.int .i32 0)⟩) := fdAt_mk Try.underlying70 rfl ty68
theorem fd70_10 : fdAt Try.prog 70 10 = some (10, ⟨(.int .i32), 1, 4, (.int .i32 0)⟩) := fdAt_mk Try.underlying70 rfl ty69
theorem fd71_0 : fdAt Try.prog 71 0 = some (0, ⟨(.int .u64), 1, 8, (.int .u64 0)⟩) := fdAt_mk Try.underlying71 rfl ty12
theorem fd71_1 : fdAt Try.prog 71 1 = some (1, ⟨(.int .u64), 1, 8, (.int .u64 0)⟩) := fdAt_mk Try.underlying71 rfl ty12
theorem fd71_2 : fdAt Try.prog 71 2 = some (2, ⟨(.int .u32), 1, 4, (.int .u32 0)⟩) := fdAt_mk Try.underlying71 rfl ty63
theorem fd71_3 : fdAt Try.prog 71 3 = some (3, ⟨(.int .u8), 1, 1, (.int .u8 0)⟩) := fdAt_mk Try.underlying71 rfl ty64
theorem fd71_4 : fdAt Try.prog 71 4 = some (4, ⟨(.int .u8), 1, 1, (.int .u8 0)⟩) := fdAt_mk Try.underlying71 rfl ty5
theorem fd71_5 : fdAt Try.prog 71 5 = some (5, ⟨(.int .u8), 1, 1, (.int .u8 0)⟩) := fdAt_mk Try.underlying71 rfl ty5
theorem fd71_6 : fdAt Try.prog 71 6 = some (6, ⟨(.int .u8), 1, 1, (.int .u8 0)⟩) := fdAt_mk Try.underlying71 rfl ty65
theorem fd71_7 : fdAt Try.prog 71 7 = some (7, ⟨(.func #[72, 72] #[4] false), 1, 8, .nilFunc⟩) := fdAt_mk Try.underlying71 rfl ty66
theorem fd71_8 : fdAt Try.prog 71 8 = some (8, ⟨(.pointer 5), 1, 8, (.pointer none)⟩) := fdAt_mk Try.underlying71 rfl ty67
theorem fd71_9 : fdAt Try.prog 71 9 = some (9, ⟨(.int .i32), 1, 4, (.int .i32 0)⟩) := fdAt_mk Try.underlying71 rfl ty68
theorem fd71_10 : fdAt Try.prog 71 10 = some (10, ⟨(.int .i32), 1, 4, (.int .i32 0)⟩) := fdAt_mk Try.underlying71 rfl ty69
attribute [push_cast] ty1 ty2 ty3 ty4 ty5 ty6 ty7 ty8 ty9 ty10 ty11 ty12 ty13 ty14 ty15 ty16 ty17 ty18 ty19 ty20 ty21 ty22 ty23 ty24 ty25 ty26 ty27 ty28 ty29 ty30 ty31 ty32 ty33 ty34 ty35 ty36 ty37 ty38 ty39 ty40 ty41 ty42 ty43 ty44 ty45 ty46 ty47 ty48 ty49 ty50 ty51 ty52 ty53 ty54 ty56 ty57 ty58 ty59 ty60 ty61 ty62 ty63 ty64 ty65 ty66 ty67 ty68 ty69 ty70 ty71 fd7_0 fd7_1 fd7_2 fd7_3 fd8_0 fd8_1 fd8_2 fd8_3 fd13_0 fd13_1 fd14_0 fd14_1 fd18_0 fd19_0 fd24_0 fd24_1 fd25_0 fd25_1 fd33_0 fd33_1 fd33_2 fd33_3 fd34_0 fd34_1 fd34_2 fd34_3 fd46_0 fd46_1 fd46_2 fd47_0 fd47_1 fd47_2 fd57_0 fd57_1 fd57_2 fd57_3 fd58_0 fd58_1 fd58_2 fd58_3 fd60_0 fd61_0 fd70_0 fd70_1 fd70_2 fd70_3 fd70_4 fd70_5 fd70_6 fd70_7 fd70_8 fd70_9 fd70_10 fd71_0 fd71_1 fd71_2 fd71_3 fd71_4 fd71_5 fd71_6 fd71_7 fd71_8 fd71_9 fd71_10
end Go.Proofs.Ythdbmbabfngakaa.T
