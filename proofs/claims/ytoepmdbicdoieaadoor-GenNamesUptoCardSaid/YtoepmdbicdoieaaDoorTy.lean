/- What the program's table says of its types: facts for the engine. Written by genty.py out of the translation. -/
import Derived.Test.YtoepmdbicdoieaaDoorEB
import Derived.Test.YtoepmdbicdoieaaDoorProg
import Derived.KernelRfl
namespace Go.Proofs.YtoepmdbicdoieaaDoor.T
open Go Go.Eng Go.Proofs
theorem ty1 : ty Tryd.prog 1 = some ⟨(.func #[] #[] false), 1, 8, .nilFunc⟩ := ty_mk Tryd.underlying1 (by kernel_rfl)
theorem ty2 : ty Tryd.prog 2 = some ⟨(.int .i64), 1, 8, (.int .i64 0)⟩ := ty_mk Tryd.underlying2 (by kernel_rfl)
theorem ty3 : ty Tryd.prog 3 = some ⟨(.int .i64), 1, 8, (.int .i64 0)⟩ := ty_mk Tryd.underlying3 (by kernel_rfl)
theorem ty4 : ty Tryd.prog 4 = some ⟨.bool, 1, 1, (.bool false)⟩ := ty_mk Tryd.underlying4 (by kernel_rfl)
theorem ty5 : ty Tryd.prog 5 = some ⟨(.int .u8), 1, 1, (.int .u8 0)⟩ := ty_mk Tryd.underlying5 (by kernel_rfl)
theorem ty6 : ty Tryd.prog 6 = some ⟨(.int .u8), 1, 1, (.int .u8 0)⟩ := ty_mk Tryd.underlying6 (by kernel_rfl)
theorem ty9 : ty Tryd.prog 9 = some ⟨.string, 1, 16, (.string ⟨#[]⟩)⟩ := ty_mk Tryd.underlying9 (by kernel_rfl)
theorem ty10 : ty Tryd.prog 10 = some ⟨.string, 1, 16, (.string ⟨#[]⟩)⟩ := ty_mk Tryd.underlying10 (by kernel_rfl)
theorem ty11 : ty Tryd.prog 11 = some ⟨.string, 1, 16, (.string ⟨#[]⟩)⟩ := ty_mk Tryd.underlying11 (by kernel_rfl)
theorem ty12 : ty Tryd.prog 12 = some ⟨(.int .u64), 1, 8, (.int .u64 0)⟩ := ty_mk Tryd.underlying12 (by kernel_rfl)
theorem ty15 : ty Tryd.prog 15 = some ⟨(.pointer 198), 1, 8, (.pointer none)⟩ := ty_mk Tryd.underlying15 (by kernel_rfl)
theorem ty16 : ty Tryd.prog 16 = some ⟨(.pointer 201), 1, 8, (.pointer none)⟩ := ty_mk Tryd.underlying16 (by kernel_rfl)
theorem ty17 : ty Tryd.prog 17 = some ⟨(.pointer 211), 1, 8, (.pointer none)⟩ := ty_mk Tryd.underlying17 (by kernel_rfl)
theorem ty20 : ty Tryd.prog 20 = some ⟨(.interface #[]), 1, 16, .nilIface⟩ := ty_mk Tryd.underlying20 (by kernel_rfl)
theorem ty21 : ty Tryd.prog 21 = some ⟨(.int .i32), 1, 4, (.int .i32 0)⟩ := ty_mk Tryd.underlying21 (by kernel_rfl)
theorem ty22 : ty Tryd.prog 22 = some ⟨(.slice 72), 1, 24, (.slice none 0 0)⟩ := ty_mk Tryd.underlying22 (by kernel_rfl)
theorem ty23 : ty Tryd.prog 23 = some ⟨(.slice 53), 1, 24, (.slice none 0 0)⟩ := ty_mk Tryd.underlying23 (by kernel_rfl)
theorem ty25 : ty Tryd.prog 25 = some ⟨(.struct #[{ name := "Datas", type := 22, offset := 0, embedded := false, tag := "", pkgPath := "", byteOffset := 0 }, { name := "Binds", type := 23, offset := 1, embedded := false, tag := "", pkgPath := "", byteOffset := 24 }]), 2, 48, (.agg #[(.slice none 0 0), (.slice none 0 0)])⟩ := ty_mk Tryd.underlying25 (by kernel_rfl)
theorem ty26 : ty Tryd.prog 26 = some ⟨(.slice 74), 1, 24, (.slice none 0 0)⟩ := ty_mk Tryd.underlying26 (by kernel_rfl)
theorem ty27 : ty Tryd.prog 27 = some ⟨(.slice 43), 1, 24, (.slice none 0 0)⟩ := ty_mk Tryd.underlying27 (by kernel_rfl)
theorem ty28 : ty Tryd.prog 28 = some ⟨(.slice 41), 1, 24, (.slice none 0 0)⟩ := ty_mk Tryd.underlying28 (by kernel_rfl)
theorem ty29 : ty Tryd.prog 29 = some ⟨(.slice 89), 1, 24, (.slice none 0 0)⟩ := ty_mk Tryd.underlying29 (by kernel_rfl)
theorem ty31 : ty Tryd.prog 31 = some ⟨(.struct #[{ name := "Cons", type := 26, offset := 0, embedded := false, tag := "", pkgPath := "", byteOffset := 0 }, { name := "Globals", type := 27, offset := 1, embedded := false, tag := "", pkgPath := "", byteOffset := 24 }, { name := "Infos", type := 28, offset := 2, embedded := false, tag := "", pkgPath := "", byteOffset := 48 }, { name := "Insns", type := 29, offset := 3, embedded := false, tag := "", pkgPath := "", byteOffset := 72 }]), 4, 96, (.agg #[(.slice none 0 0), (.slice none 0 0), (.slice none 0 0), (.slice none 0 0)])⟩ := ty_mk Tryd.underlying31 (by kernel_rfl)
theorem ty32 : ty Tryd.prog 32 = some ⟨(.int .i64), 1, 8, (.int .i64 0)⟩ := ty_mk Tryd.underlying32 (by kernel_rfl)
theorem ty34 : ty Tryd.prog 34 = some ⟨(.func #[25] #[31, 3, 32] false), 1, 8, .nilFunc⟩ := ty_mk Tryd.underlying34 (by kernel_rfl)
theorem ty35 : ty Tryd.prog 35 = some ⟨(.func #[] #[4] false), 1, 8, .nilFunc⟩ := ty_mk Tryd.underlying35 (by kernel_rfl)
theorem ty36 : ty Tryd.prog 36 = some ⟨(.func #[31, 31] #[4] false), 1, 8, .nilFunc⟩ := ty_mk Tryd.underlying36 (by kernel_rfl)
theorem ty37 : ty Tryd.prog 37 = some ⟨(.func #[25] #[4] false), 1, 8, .nilFunc⟩ := ty_mk Tryd.underlying37 (by kernel_rfl)
theorem ty39 : ty Tryd.prog 39 = some ⟨(.func #[31] #[3, 32] false), 1, 8, .nilFunc⟩ := ty_mk Tryd.underlying39 (by kernel_rfl)
theorem ty41 : ty Tryd.prog 41 = some ⟨(.struct #[{ name := "Kind", type := 3, offset := 0, embedded := false, tag := "", pkgPath := "", byteOffset := 0 }, { name := "Arity", type := 3, offset := 1, embedded := false, tag := "", pkgPath := "", byteOffset := 8 }, { name := "Free", type := 3, offset := 2, embedded := false, tag := "", pkgPath := "", byteOffset := 16 }, { name := "To", type := 3, offset := 3, embedded := false, tag := "", pkgPath := "", byteOffset := 24 }]), 4, 32, (.agg #[(.int .i64 0), (.int .i64 0), (.int .i64 0), (.int .i64 0)])⟩ := ty_mk Tryd.underlying41 (by kernel_rfl)
theorem ty43 : ty Tryd.prog 43 = some ⟨(.struct #[{ name := "Name", type := 9, offset := 0, embedded := false, tag := "", pkgPath := "", byteOffset := 0 }, { name := "Info", type := 3, offset := 1, embedded := false, tag := "", pkgPath := "", byteOffset := 16 }]), 2, 24, (.agg #[(.string ⟨#[]⟩), (.int .i64 0)])⟩ := ty_mk Tryd.underlying43 (by kernel_rfl)
theorem ty44 : ty Tryd.prog 44 = some ⟨(.slice 9), 1, 24, (.slice none 0 0)⟩ := ty_mk Tryd.underlying44 (by kernel_rfl)
theorem ty45 : ty Tryd.prog 45 = some ⟨(.slice 146), 1, 24, (.slice none 0 0)⟩ := ty_mk Tryd.underlying45 (by kernel_rfl)
theorem ty46 : ty Tryd.prog 46 = some ⟨(.slice 49), 1, 24, (.slice none 0 0)⟩ := ty_mk Tryd.underlying46 (by kernel_rfl)
theorem ty47 : ty Tryd.prog 47 = some ⟨(.slice 148), 1, 24, (.slice none 0 0)⟩ := ty_mk Tryd.underlying47 (by kernel_rfl)
theorem ty49 : ty Tryd.prog 49 = some ⟨(.struct #[{ name := "Kind", type := 3, offset := 0, embedded := false, tag := "", pkgPath := "", byteOffset := 0 }, { name := "At", type := 3, offset := 1, embedded := false, tag := "", pkgPath := "", byteOffset := 8 }, { name := "Name", type := 9, offset := 2, embedded := false, tag := "", pkgPath := "", byteOffset := 16 }, { name := "N", type := 2, offset := 3, embedded := false, tag := "", pkgPath := "", byteOffset := 32 }, { name := "Atoms", type := 45, offset := 4, embedded := false, tag := "", pkgPath := "", byteOffset := 40 }, { name := "Binds", type := 23, offset := 5, embedded := false, tag := "", pkgPath := "", byteOffset := 64 }, { name := "Kids", type := 46, offset := 6, embedded := false, tag := "", pkgPath := "", byteOffset := 88 }, { name := "Alts", type := 47, offset := 7, embedded := false, tag := "", pkgPath := "", byteOffset := 112 }]), 8, 136, (.agg #[(.int .i64 0), (.int .i64 0), (.string ⟨#[]⟩), (.int .i64 0), (.slice none 0 0), (.slice none 0 0), (.slice none 0 0), (.slice none 0 0)])⟩ := ty_mk Tryd.underlying49 (by kernel_rfl)
theorem ty51 : ty Tryd.prog 51 = some ⟨(.struct #[{ name := "Args", type := 44, offset := 0, embedded := false, tag := "", pkgPath := "", byteOffset := 0 }, { name := "Body", type := 49, offset := 1, embedded := false, tag := "", pkgPath := "", byteOffset := 24 }]), 9, 160, (.agg #[(.slice none 0 0), (.int .i64 0), (.int .i64 0), (.string ⟨#[]⟩), (.int .i64 0), (.slice none 0 0), (.slice none 0 0), (.slice none 0 0), (.slice none 0 0)])⟩ := ty_mk Tryd.underlying51 (by kernel_rfl)
theorem ty53 : ty Tryd.prog 53 = some ⟨(.struct #[{ name := "Name", type := 9, offset := 0, embedded := false, tag := "", pkgPath := "", byteOffset := 0 }, { name := "At", type := 3, offset := 1, embedded := false, tag := "", pkgPath := "", byteOffset := 16 }, { name := "Form", type := 51, offset := 2, embedded := false, tag := "", pkgPath := "", byteOffset := 24 }]), 11, 184, (.agg #[(.string ⟨#[]⟩), (.int .i64 0), (.slice none 0 0), (.int .i64 0), (.int .i64 0), (.string ⟨#[]⟩), (.int .i64 0), (.slice none 0 0), (.slice none 0 0), (.slice none 0 0), (.slice none 0 0)])⟩ := ty_mk Tryd.underlying53 (by kernel_rfl)
theorem ty54 : ty Tryd.prog 54 = some ⟨(.func #[23] #[23] false), 1, 8, .nilFunc⟩ := ty_mk Tryd.underlying54 (by kernel_rfl)
theorem ty55 : ty Tryd.prog 55 = some ⟨(.func #[23] #[4] false), 1, 8, .nilFunc⟩ := ty_mk Tryd.underlying55 (by kernel_rfl)
theorem ty56 : ty Tryd.prog 56 = some ⟨(.func #[9] #[9] false), 1, 8, .nilFunc⟩ := ty_mk Tryd.underlying56 (by kernel_rfl)
theorem ty58 : ty Tryd.prog 58 = some ⟨(.func #[9] #[25, 3, 32] false), 1, 8, .nilFunc⟩ := ty_mk Tryd.underlying58 (by kernel_rfl)
theorem ty59 : ty Tryd.prog 59 = some ⟨(.slice 99), 1, 24, (.slice none 0 0)⟩ := ty_mk Tryd.underlying59 (by kernel_rfl)
theorem ty61 : ty Tryd.prog 61 = some ⟨(.func #[9] #[59, 3, 32] false), 1, 8, .nilFunc⟩ := ty_mk Tryd.underlying61 (by kernel_rfl)
theorem ty63 : ty Tryd.prog 63 = some ⟨(.func #[59] #[9, 32] false), 1, 8, .nilFunc⟩ := ty_mk Tryd.underlying63 (by kernel_rfl)
theorem ty64 : ty Tryd.prog 64 = some ⟨(.func #[9] #[4] false), 1, 8, .nilFunc⟩ := ty_mk Tryd.underlying64 (by kernel_rfl)
theorem ty65 : ty Tryd.prog 65 = some ⟨(.func #[25] #[3, 32] false), 1, 8, .nilFunc⟩ := ty_mk Tryd.underlying65 (by kernel_rfl)
theorem ty66 : ty Tryd.prog 66 = some ⟨(.pointer 70), 1, 8, (.pointer none)⟩ := ty_mk Tryd.underlying66 (by kernel_rfl)
theorem ty67 : ty Tryd.prog 67 = some ⟨(.map 9 3), 1, 8, (.map none)⟩ := ty_mk Tryd.underlying67 (by kernel_rfl)
theorem ty68 : ty Tryd.prog 68 = some ⟨(.slice 1), 1, 24, (.slice none 0 0)⟩ := ty_mk Tryd.underlying68 (by kernel_rfl)
theorem ty70 : ty Tryd.prog 70 = some ⟨(.struct #[{ name := "c", type := 31, offset := 0, embedded := false, tag := "", pkgPath := "midden/gen", byteOffset := 0 }, { name := "cons", type := 67, offset := 4, embedded := false, tag := "", pkgPath := "midden/gen", byteOffset := 96 }, { name := "tops", type := 67, offset := 5, embedded := false, tag := "", pkgPath := "midden/gen", byteOffset := 104 }, { name := "queue", type := 68, offset := 6, embedded := false, tag := "", pkgPath := "midden/gen", byteOffset := 112 }, { name := "big", type := 4, offset := 7, embedded := false, tag := "", pkgPath := "midden/gen", byteOffset := 136 }]), 8, 144, (.agg #[(.slice none 0 0), (.slice none 0 0), (.slice none 0 0), (.slice none 0 0), (.map none), (.map none), (.slice none 0 0), (.bool false)])⟩ := ty_mk Tryd.underlying70 (by kernel_rfl)
theorem ty72 : ty Tryd.prog 72 = some ⟨(.struct #[{ name := "Name", type := 9, offset := 0, embedded := false, tag := "", pkgPath := "", byteOffset := 0 }, { name := "Arity", type := 3, offset := 1, embedded := false, tag := "", pkgPath := "", byteOffset := 16 }, { name := "At", type := 3, offset := 2, embedded := false, tag := "", pkgPath := "", byteOffset := 24 }]), 3, 32, (.agg #[(.string ⟨#[]⟩), (.int .i64 0), (.int .i64 0)])⟩ := ty_mk Tryd.underlying72 (by kernel_rfl)
theorem ty74 : ty Tryd.prog 74 = some ⟨(.struct #[{ name := "Name", type := 9, offset := 0, embedded := false, tag := "", pkgPath := "", byteOffset := 0 }, { name := "Arity", type := 3, offset := 1, embedded := false, tag := "", pkgPath := "", byteOffset := 16 }]), 2, 24, (.agg #[(.string ⟨#[]⟩), (.int .i64 0)])⟩ := ty_mk Tryd.underlying74 (by kernel_rfl)
theorem ty75 : ty Tryd.prog 75 = some ⟨(.func #[51, 44] #[3] false), 1, 8, .nilFunc⟩ := ty_mk Tryd.underlying75 (by kernel_rfl)
theorem ty76 : ty Tryd.prog 76 = some ⟨(.pointer 80), 1, 8, (.pointer none)⟩ := ty_mk Tryd.underlying76 (by kernel_rfl)
theorem ty77 : ty Tryd.prog 77 = some ⟨(.slice 51), 1, 24, (.slice none 0 0)⟩ := ty_mk Tryd.underlying77 (by kernel_rfl)
theorem ty78 : ty Tryd.prog 78 = some ⟨(.slice 44), 1, 24, (.slice none 0 0)⟩ := ty_mk Tryd.underlying78 (by kernel_rfl)
theorem ty80 : ty Tryd.prog 80 = some ⟨(.struct #[{ name := "P", type := 25, offset := 0, embedded := false, tag := "", pkgPath := "", byteOffset := 0 }, { name := "C", type := 31, offset := 2, embedded := false, tag := "", pkgPath := "", byteOffset := 48 }, { name := "Forms", type := 77, offset := 6, embedded := false, tag := "", pkgPath := "", byteOffset := 144 }, { name := "Needs", type := 78, offset := 7, embedded := false, tag := "", pkgPath := "", byteOffset := 168 }, { name := "Big", type := 4, offset := 8, embedded := false, tag := "", pkgPath := "", byteOffset := 192 }]), 9, 200, (.agg #[(.slice none 0 0), (.slice none 0 0), (.slice none 0 0), (.slice none 0 0), (.slice none 0 0), (.slice none 0 0), (.slice none 0 0), (.slice none 0 0), (.bool false)])⟩ := ty_mk Tryd.underlying80 (by kernel_rfl)
theorem ty81 : ty Tryd.prog 81 = some ⟨(.func #[49, 44] #[] false), 1, 8, .nilFunc⟩ := ty_mk Tryd.underlying81 (by kernel_rfl)
theorem ty82 : ty Tryd.prog 82 = some ⟨(.func #[44, 44] #[44] false), 1, 8, .nilFunc⟩ := ty_mk Tryd.underlying82 (by kernel_rfl)
theorem ty83 : ty Tryd.prog 83 = some ⟨(.slice 3), 1, 24, (.slice none 0 0)⟩ := ty_mk Tryd.underlying83 (by kernel_rfl)
theorem ty85 : ty Tryd.prog 85 = some ⟨(.struct #[{ name := "Kind", type := 3, offset := 0, embedded := false, tag := "", pkgPath := "", byteOffset := 0 }, { name := "Info", type := 3, offset := 1, embedded := false, tag := "", pkgPath := "", byteOffset := 8 }, { name := "N", type := 2, offset := 2, embedded := false, tag := "", pkgPath := "", byteOffset := 16 }, { name := "From", type := 83, offset := 3, embedded := false, tag := "", pkgPath := "", byteOffset := 24 }]), 4, 48, (.agg #[(.int .i64 0), (.int .i64 0), (.int .i64 0), (.slice none 0 0)])⟩ := ty_mk Tryd.underlying85 (by kernel_rfl)
theorem ty86 : ty Tryd.prog 86 = some ⟨(.slice 85), 1, 24, (.slice none 0 0)⟩ := ty_mk Tryd.underlying86 (by kernel_rfl)
theorem ty87 : ty Tryd.prog 87 = some ⟨(.slice 138), 1, 24, (.slice none 0 0)⟩ := ty_mk Tryd.underlying87 (by kernel_rfl)
theorem ty89 : ty Tryd.prog 89 = some ⟨(.struct #[{ name := "Op", type := 3, offset := 0, embedded := false, tag := "", pkgPath := "", byteOffset := 0 }, { name := "A", type := 3, offset := 1, embedded := false, tag := "", pkgPath := "", byteOffset := 8 }, { name := "B", type := 3, offset := 2, embedded := false, tag := "", pkgPath := "", byteOffset := 16 }, { name := "List", type := 83, offset := 3, embedded := false, tag := "", pkgPath := "", byteOffset := 24 }, { name := "Keep", type := 83, offset := 4, embedded := false, tag := "", pkgPath := "", byteOffset := 48 }, { name := "Makes", type := 86, offset := 5, embedded := false, tag := "", pkgPath := "", byteOffset := 72 }, { name := "Arms", type := 87, offset := 6, embedded := false, tag := "", pkgPath := "", byteOffset := 96 }]), 7, 120, (.agg #[(.int .i64 0), (.int .i64 0), (.int .i64 0), (.slice none 0 0), (.slice none 0 0), (.slice none 0 0), (.slice none 0 0)])⟩ := ty_mk Tryd.underlying89 (by kernel_rfl)
theorem ty90 : ty Tryd.prog 90 = some ⟨(.func #[89, 89] #[4] false), 1, 8, .nilFunc⟩ := ty_mk Tryd.underlying90 (by kernel_rfl)
theorem ty91 : ty Tryd.prog 91 = some ⟨(.func #[31, 41] #[32] false), 1, 8, .nilFunc⟩ := ty_mk Tryd.underlying91 (by kernel_rfl)
theorem ty92 : ty Tryd.prog 92 = some ⟨(.func #[31, 3] #[32] false), 1, 8, .nilFunc⟩ := ty_mk Tryd.underlying92 (by kernel_rfl)
theorem ty93 : ty Tryd.prog 93 = some ⟨(.func #[44] #[44] false), 1, 8, .nilFunc⟩ := ty_mk Tryd.underlying93 (by kernel_rfl)
theorem ty94 : ty Tryd.prog 94 = some ⟨(.func #[49] #[49] false), 1, 8, .nilFunc⟩ := ty_mk Tryd.underlying94 (by kernel_rfl)
theorem ty95 : ty Tryd.prog 95 = some ⟨(.pointer 97), 1, 8, (.pointer none)⟩ := ty_mk Tryd.underlying95 (by kernel_rfl)
theorem ty97 : ty Tryd.prog 97 = some ⟨(.struct #[{ name := "L", type := 59, offset := 0, embedded := false, tag := "", pkgPath := "", byteOffset := 0 }, { name := "At", type := 3, offset := 1, embedded := false, tag := "", pkgPath := "", byteOffset := 24 }, { name := "End", type := 3, offset := 2, embedded := false, tag := "", pkgPath := "", byteOffset := 32 }, { name := "Bad", type := 4, offset := 3, embedded := false, tag := "", pkgPath := "", byteOffset := 40 }, { name := "Errs", type := 32, offset := 4, embedded := false, tag := "", pkgPath := "", byteOffset := 48 }, { name := "Errn", type := 3, offset := 5, embedded := false, tag := "", pkgPath := "", byteOffset := 56 }]), 6, 64, (.agg #[(.slice none 0 0), (.int .i64 0), (.int .i64 0), (.bool false), (.int .i64 0), (.int .i64 0)])⟩ := ty_mk Tryd.underlying97 (by kernel_rfl)
theorem ty99 : ty Tryd.prog 99 = some ⟨(.struct #[{ name := "Kind", type := 3, offset := 0, embedded := false, tag := "", pkgPath := "", byteOffset := 0 }, { name := "Text", type := 9, offset := 1, embedded := false, tag := "", pkgPath := "", byteOffset := 8 }, { name := "N", type := 2, offset := 2, embedded := false, tag := "", pkgPath := "", byteOffset := 24 }, { name := "At", type := 3, offset := 3, embedded := false, tag := "", pkgPath := "", byteOffset := 32 }]), 4, 40, (.agg #[(.int .i64 0), (.string ⟨#[]⟩), (.int .i64 0), (.int .i64 0)])⟩ := ty_mk Tryd.underlying99 (by kernel_rfl)
theorem ty100 : ty Tryd.prog 100 = some ⟨(.func #[3] #[99] false), 1, 8, .nilFunc⟩ := ty_mk Tryd.underlying100 (by kernel_rfl)
theorem ty101 : ty Tryd.prog 101 = some ⟨(.func #[9] #[] false), 1, 8, .nilFunc⟩ := ty_mk Tryd.underlying101 (by kernel_rfl)
theorem ty102 : ty Tryd.prog 102 = some ⟨(.func #[3] #[53] false), 1, 8, .nilFunc⟩ := ty_mk Tryd.underlying102 (by kernel_rfl)
theorem ty103 : ty Tryd.prog 103 = some ⟨(.func #[9, 3] #[3] false), 1, 8, .nilFunc⟩ := ty_mk Tryd.underlying103 (by kernel_rfl)
theorem ty105 : ty Tryd.prog 105 = some ⟨(.func #[9, 3] #[99, 3, 32] false), 1, 8, .nilFunc⟩ := ty_mk Tryd.underlying105 (by kernel_rfl)
theorem ty106 : ty Tryd.prog 106 = some ⟨(.slice 5), 1, 24, (.slice none 0 0)⟩ := ty_mk Tryd.underlying106 (by kernel_rfl)
theorem ty108 : ty Tryd.prog 108 = some ⟨(.func #[99] #[9, 4] false), 1, 8, .nilFunc⟩ := ty_mk Tryd.underlying108 (by kernel_rfl)
theorem ty109 : ty Tryd.prog 109 = some ⟨(.pointer 112), 1, 8, (.pointer none)⟩ := ty_mk Tryd.underlying109 (by kernel_rfl)
theorem ty110 : ty Tryd.prog 110 = some ⟨(.pointer 121), 1, 8, (.pointer none)⟩ := ty_mk Tryd.underlying110 (by kernel_rfl)
theorem ty112 : ty Tryd.prog 112 = some ⟨(.struct #[{ name := "cons", type := 67, offset := 0, embedded := false, tag := "", pkgPath := "midden/scope", byteOffset := 0 }, { name := "bad", type := 110, offset := 1, embedded := false, tag := "", pkgPath := "midden/scope", byteOffset := 8 }]), 2, 16, (.agg #[(.map none), (.pointer none)])⟩ := ty_mk Tryd.underlying112 (by kernel_rfl)
theorem ty114 : ty Tryd.prog 114 = some ⟨(.pointer 117), 1, 8, (.pointer none)⟩ := ty_mk Tryd.underlying114 (by kernel_rfl)
theorem ty115 : ty Tryd.prog 115 = some ⟨(.func #[44] #[114] true), 1, 8, .nilFunc⟩ := ty_mk Tryd.underlying115 (by kernel_rfl)
theorem ty117 : ty Tryd.prog 117 = some ⟨(.struct #[{ name := "own", type := 67, offset := 0, embedded := false, tag := "", pkgPath := "midden/scope", byteOffset := 0 }, { name := "out", type := 114, offset := 1, embedded := false, tag := "", pkgPath := "midden/scope", byteOffset := 8 }]), 2, 16, (.agg #[(.map none), (.pointer none)])⟩ := ty_mk Tryd.underlying117 (by kernel_rfl)
theorem ty118 : ty Tryd.prog 118 = some ⟨(.func #[53, 114] #[] false), 1, 8, .nilFunc⟩ := ty_mk Tryd.underlying118 (by kernel_rfl)
theorem ty119 : ty Tryd.prog 119 = some ⟨(.func #[3, 32] #[] false), 1, 8, .nilFunc⟩ := ty_mk Tryd.underlying119 (by kernel_rfl)
theorem ty121 : ty Tryd.prog 121 = some ⟨(.struct #[{ name := "at", type := 3, offset := 0, embedded := false, tag := "", pkgPath := "midden/scope", byteOffset := 0 }, { name := "e", type := 32, offset := 1, embedded := false, tag := "", pkgPath := "midden/scope", byteOffset := 8 }]), 2, 16, (.agg #[(.int .i64 0), (.int .i64 0)])⟩ := ty_mk Tryd.underlying121 (by kernel_rfl)
theorem ty122 : ty Tryd.prog 122 = some ⟨(.map 9 3), 1, 8, (.map none)⟩ := ty_mk Tryd.underlying122 (by kernel_rfl)
theorem ty123 : ty Tryd.prog 123 = some ⟨(.func #[49, 122, 3] #[] false), 1, 8, .nilFunc⟩ := ty_mk Tryd.underlying123 (by kernel_rfl)
theorem ty124 : ty Tryd.prog 124 = some ⟨(.pointer 126), 1, 8, (.pointer none)⟩ := ty_mk Tryd.underlying124 (by kernel_rfl)
theorem ty126 : ty Tryd.prog 126 = some ⟨(.struct #[{ name := "P", type := 25, offset := 0, embedded := false, tag := "", pkgPath := "", byteOffset := 0 }, { name := "Bad", type := 4, offset := 2, embedded := false, tag := "", pkgPath := "", byteOffset := 48 }, { name := "At", type := 3, offset := 3, embedded := false, tag := "", pkgPath := "", byteOffset := 56 }, { name := "E", type := 32, offset := 4, embedded := false, tag := "", pkgPath := "", byteOffset := 64 }]), 5, 72, (.agg #[(.slice none 0 0), (.slice none 0 0), (.bool false), (.int .i64 0), (.int .i64 0)])⟩ := ty_mk Tryd.underlying126 (by kernel_rfl)
theorem ty127 : ty Tryd.prog 127 = some ⟨(.func #[23] #[44] false), 1, 8, .nilFunc⟩ := ty_mk Tryd.underlying127 (by kernel_rfl)
theorem ty128 : ty Tryd.prog 128 = some ⟨(.func #[44, 9] #[4] false), 1, 8, .nilFunc⟩ := ty_mk Tryd.underlying128 (by kernel_rfl)
theorem ty129 : ty Tryd.prog 129 = some ⟨(.func #[53, 44] #[] false), 1, 8, .nilFunc⟩ := ty_mk Tryd.underlying129 (by kernel_rfl)
theorem ty130 : ty Tryd.prog 130 = some ⟨(.func #[89] #[] false), 1, 8, .nilFunc⟩ := ty_mk Tryd.underlying130 (by kernel_rfl)
theorem ty131 : ty Tryd.prog 131 = some ⟨(.func #[45] #[86] false), 1, 8, .nilFunc⟩ := ty_mk Tryd.underlying131 (by kernel_rfl)
theorem ty132 : ty Tryd.prog 132 = some ⟨(.func #[9] #[3] false), 1, 8, .nilFunc⟩ := ty_mk Tryd.underlying132 (by kernel_rfl)
theorem ty133 : ty Tryd.prog 133 = some ⟨(.func #[44, 45, 3] #[83] false), 1, 8, .nilFunc⟩ := ty_mk Tryd.underlying133 (by kernel_rfl)
theorem ty134 : ty Tryd.prog 134 = some ⟨(.func #[49, 3] #[] false), 1, 8, .nilFunc⟩ := ty_mk Tryd.underlying134 (by kernel_rfl)
theorem ty135 : ty Tryd.prog 135 = some ⟨(.func #[44, 9] #[3] false), 1, 8, .nilFunc⟩ := ty_mk Tryd.underlying135 (by kernel_rfl)
theorem ty136 : ty Tryd.prog 136 = some ⟨(.func #[83, 83] #[4] false), 1, 8, .nilFunc⟩ := ty_mk Tryd.underlying136 (by kernel_rfl)
theorem ty138 : ty Tryd.prog 138 = some ⟨(.struct #[{ name := "Kind", type := 3, offset := 0, embedded := false, tag := "", pkgPath := "", byteOffset := 0 }, { name := "Con", type := 3, offset := 1, embedded := false, tag := "", pkgPath := "", byteOffset := 8 }, { name := "N", type := 2, offset := 2, embedded := false, tag := "", pkgPath := "", byteOffset := 16 }, { name := "To", type := 3, offset := 3, embedded := false, tag := "", pkgPath := "", byteOffset := 24 }]), 4, 32, (.agg #[(.int .i64 0), (.int .i64 0), (.int .i64 0), (.int .i64 0)])⟩ := ty_mk Tryd.underlying138 (by kernel_rfl)
theorem ty139 : ty Tryd.prog 139 = some ⟨(.func #[3] #[4] false), 1, 8, .nilFunc⟩ := ty_mk Tryd.underlying139 (by kernel_rfl)
theorem ty140 : ty Tryd.prog 140 = some ⟨(.func #[31, 3, 89] #[32] false), 1, 8, .nilFunc⟩ := ty_mk Tryd.underlying140 (by kernel_rfl)
theorem ty141 : ty Tryd.prog 141 = some ⟨(.func #[31, 3, 83] #[4] false), 1, 8, .nilFunc⟩ := ty_mk Tryd.underlying141 (by kernel_rfl)
theorem ty142 : ty Tryd.prog 142 = some ⟨(.func #[31, 3] #[4] false), 1, 8, .nilFunc⟩ := ty_mk Tryd.underlying142 (by kernel_rfl)
theorem ty143 : ty Tryd.prog 143 = some ⟨(.func #[31, 89] #[32] false), 1, 8, .nilFunc⟩ := ty_mk Tryd.underlying143 (by kernel_rfl)
theorem ty144 : ty Tryd.prog 144 = some ⟨(.func #[3] #[3] false), 1, 8, .nilFunc⟩ := ty_mk Tryd.underlying144 (by kernel_rfl)
theorem ty146 : ty Tryd.prog 146 = some ⟨(.struct #[{ name := "Name", type := 9, offset := 0, embedded := false, tag := "", pkgPath := "", byteOffset := 0 }, { name := "N", type := 2, offset := 1, embedded := false, tag := "", pkgPath := "", byteOffset := 16 }]), 2, 24, (.agg #[(.string ⟨#[]⟩), (.int .i64 0)])⟩ := ty_mk Tryd.underlying146 (by kernel_rfl)
theorem ty148 : ty Tryd.prog 148 = some ⟨(.struct #[{ name := "Kind", type := 3, offset := 0, embedded := false, tag := "", pkgPath := "", byteOffset := 0 }, { name := "At", type := 3, offset := 1, embedded := false, tag := "", pkgPath := "", byteOffset := 8 }, { name := "Name", type := 9, offset := 2, embedded := false, tag := "", pkgPath := "", byteOffset := 16 }, { name := "N", type := 2, offset := 3, embedded := false, tag := "", pkgPath := "", byteOffset := 32 }, { name := "Vars", type := 44, offset := 4, embedded := false, tag := "", pkgPath := "", byteOffset := 40 }, { name := "Body", type := 49, offset := 5, embedded := false, tag := "", pkgPath := "", byteOffset := 64 }]), 13, 200, (.agg #[(.int .i64 0), (.int .i64 0), (.string ⟨#[]⟩), (.int .i64 0), (.slice none 0 0), (.int .i64 0), (.int .i64 0), (.string ⟨#[]⟩), (.int .i64 0), (.slice none 0 0), (.slice none 0 0), (.slice none 0 0), (.slice none 0 0)])⟩ := ty_mk Tryd.underlying148 (by kernel_rfl)
theorem ty149 : ty Tryd.prog 149 = some ⟨(.func #[] #[99] false), 1, 8, .nilFunc⟩ := ty_mk Tryd.underlying149 (by kernel_rfl)
theorem ty150 : ty Tryd.prog 150 = some ⟨(.func #[32] #[] false), 1, 8, .nilFunc⟩ := ty_mk Tryd.underlying150 (by kernel_rfl)
theorem ty151 : ty Tryd.prog 151 = some ⟨(.func #[] #[44] false), 1, 8, .nilFunc⟩ := ty_mk Tryd.underlying151 (by kernel_rfl)
theorem ty152 : ty Tryd.prog 152 = some ⟨(.func #[3] #[49] false), 1, 8, .nilFunc⟩ := ty_mk Tryd.underlying152 (by kernel_rfl)
theorem ty153 : ty Tryd.prog 153 = some ⟨(.func #[5] #[4] false), 1, 8, .nilFunc⟩ := ty_mk Tryd.underlying153 (by kernel_rfl)
theorem ty155 : ty Tryd.prog 155 = some ⟨(.func #[9] #[2, 4] false), 1, 8, .nilFunc⟩ := ty_mk Tryd.underlying155 (by kernel_rfl)
theorem ty156 : ty Tryd.prog 156 = some ⟨(.func #[9, 3] #[4] false), 1, 8, .nilFunc⟩ := ty_mk Tryd.underlying156 (by kernel_rfl)
theorem ty157 : ty Tryd.prog 157 = some ⟨(.func #[2] #[9] false), 1, 8, .nilFunc⟩ := ty_mk Tryd.underlying157 (by kernel_rfl)
theorem ty158 : ty Tryd.prog 158 = some ⟨(.func #[44] #[4] false), 1, 8, .nilFunc⟩ := ty_mk Tryd.underlying158 (by kernel_rfl)
theorem ty159 : ty Tryd.prog 159 = some ⟨(.func #[3, 160] #[3] false), 1, 8, .nilFunc⟩ := ty_mk Tryd.underlying159 (by kernel_rfl)
theorem ty160 : ty Tryd.prog 160 = some ⟨(.func #[3, 3] #[4] false), 1, 8, .nilFunc⟩ := ty_mk Tryd.underlying160 (by kernel_rfl)
theorem ty161 : ty Tryd.prog 161 = some ⟨(.func #[49, 114] #[] false), 1, 8, .nilFunc⟩ := ty_mk Tryd.underlying161 (by kernel_rfl)
theorem ty162 : ty Tryd.prog 162 = some ⟨(.func #[89] #[3] false), 1, 8, .nilFunc⟩ := ty_mk Tryd.underlying162 (by kernel_rfl)
theorem ty163 : ty Tryd.prog 163 = some ⟨(.func #[45, 122, 3] #[83] false), 1, 8, .nilFunc⟩ := ty_mk Tryd.underlying163 (by kernel_rfl)
theorem ty164 : ty Tryd.prog 164 = some ⟨(.func #[9, 122] #[3] false), 1, 8, .nilFunc⟩ := ty_mk Tryd.underlying164 (by kernel_rfl)
theorem ty165 : ty Tryd.prog 165 = some ⟨(.func #[3] #[9] false), 1, 8, .nilFunc⟩ := ty_mk Tryd.underlying165 (by kernel_rfl)
theorem ty166 : ty Tryd.prog 166 = some ⟨(.func #[51] #[3] false), 1, 8, .nilFunc⟩ := ty_mk Tryd.underlying166 (by kernel_rfl)
theorem ty167 : ty Tryd.prog 167 = some ⟨(.func #[3] #[44] false), 1, 8, .nilFunc⟩ := ty_mk Tryd.underlying167 (by kernel_rfl)
theorem ty169 : ty Tryd.prog 169 = some ⟨(.func #[51] #[9, 3, 9, 4] false), 1, 8, .nilFunc⟩ := ty_mk Tryd.underlying169 (by kernel_rfl)
theorem ty170 : ty Tryd.prog 170 = some ⟨(.func #[51] #[44] false), 1, 8, .nilFunc⟩ := ty_mk Tryd.underlying170 (by kernel_rfl)
theorem ty171 : ty Tryd.prog 171 = some ⟨(.func #[44, 44] #[83] false), 1, 8, .nilFunc⟩ := ty_mk Tryd.underlying171 (by kernel_rfl)
theorem ty172 : ty Tryd.prog 172 = some ⟨(.func #[49] #[44] false), 1, 8, .nilFunc⟩ := ty_mk Tryd.underlying172 (by kernel_rfl)
theorem ty173 : ty Tryd.prog 173 = some ⟨(.func #[148] #[44] false), 1, 8, .nilFunc⟩ := ty_mk Tryd.underlying173 (by kernel_rfl)
theorem ty174 : ty Tryd.prog 174 = some ⟨(.func #[31, 85] #[3] false), 1, 8, .nilFunc⟩ := ty_mk Tryd.underlying174 (by kernel_rfl)
theorem ty175 : ty Tryd.prog 175 = some ⟨(.func #[] #[45] false), 1, 8, .nilFunc⟩ := ty_mk Tryd.underlying175 (by kernel_rfl)
theorem ty176 : ty Tryd.prog 176 = some ⟨(.func #[3] #[148] false), 1, 8, .nilFunc⟩ := ty_mk Tryd.underlying176 (by kernel_rfl)
theorem ty177 : ty Tryd.prog 177 = some ⟨(.int .u64), 1, 8, (.int .u64 0)⟩ := ty_mk Tryd.underlying177 (by kernel_rfl)
theorem ty178 : ty Tryd.prog 178 = some ⟨(.func #[49, 114, 3, 3] #[] false), 1, 8, .nilFunc⟩ := ty_mk Tryd.underlying178 (by kernel_rfl)
theorem ty179 : ty Tryd.prog 179 = some ⟨(.array 3 3), 3, 24, (.agg #[(.int .i64 0), (.int .i64 0), (.int .i64 0)])⟩ := ty_mk Tryd.underlying179 (by kernel_rfl)
theorem ty181 : ty Tryd.prog 181 = some ⟨(.struct #[{ name := "name", type := 9, offset := 0, embedded := false, tag := "", pkgPath := "midden/prim", byteOffset := 0 }, { name := "arity", type := 3, offset := 1, embedded := false, tag := "", pkgPath := "midden/prim", byteOffset := 16 }, { name := "need", type := 179, offset := 2, embedded := false, tag := "", pkgPath := "midden/prim", byteOffset := 24 }]), 5, 48, (.agg #[(.string ⟨#[]⟩), (.int .i64 0), (.int .i64 0), (.int .i64 0), (.int .i64 0)])⟩ := ty_mk Tryd.underlying181 (by kernel_rfl)
theorem ty182 : ty Tryd.prog 182 = some ⟨(.array 17 181), 85, 816, (.agg #[(.string ⟨#[]⟩), (.int .i64 0), (.int .i64 0), (.int .i64 0), (.int .i64 0), (.string ⟨#[]⟩), (.int .i64 0), (.int .i64 0), (.int .i64 0), (.int .i64 0), (.string ⟨#[]⟩), (.int .i64 0), (.int .i64 0), (.int .i64 0), (.int .i64 0), (.string ⟨#[]⟩), (.int .i64 0), (.int .i64 0), (.int .i64 0), (.int .i64 0), (.string ⟨#[]⟩), (.int .i64 0), (.int .i64 0), (.int .i64 0), (.int .i64 0), (.string ⟨#[]⟩), (.int .i64 0), (.int .i64 0), (.int .i64 0), (.int .i64 0), (.string ⟨#[]⟩), (.int .i64 0), (.int .i64 0), (.int .i64 0), (.int .i64 0), (.string ⟨#[]⟩), (.int .i64 0), (.int .i64 0), (.int .i64 0), (.int .i64 0), (.string ⟨#[]⟩), (.int .i64 0), (.int .i64 0), (.int .i64 0), (.int .i64 0), (.string ⟨#[]⟩), (.int .i64 0), (.int .i64 0), (.int .i64 0), (.int .i64 0), (.string ⟨#[]⟩), (.int .i64 0), (.int .i64 0), (.int .i64 0), (.int .i64 0), (.string ⟨#[]⟩), (.int .i64 0), (.int .i64 0), (.int .i64 0), (.int .i64 0), (.string ⟨#[]⟩), (.int .i64 0), (.int .i64 0), (.int .i64 0), (.int .i64 0), (.string ⟨#[]⟩), (.int .i64 0), (.int .i64 0), (.int .i64 0), (.int .i64 0), (.string ⟨#[]⟩), (.int .i64 0), (.int .i64 0), (.int .i64 0), (.int .i64 0), (.string ⟨#[]⟩), (.int .i64 0), (.int .i64 0), (.int .i64 0), (.int .i64 0), (.string ⟨#[]⟩), (.int .i64 0), (.int .i64 0), (.int .i64 0), (.int .i64 0)])⟩ := ty_mk Tryd.underlying182 (by kernel_rfl)
theorem ty183 : ty Tryd.prog 183 = some ⟨(.func #[3, 44] #[122] true), 1, 8, .nilFunc⟩ := ty_mk Tryd.underlying183 (by kernel_rfl)
theorem ty184 : ty Tryd.prog 184 = some ⟨(.func #[44, 122] #[44] false), 1, 8, .nilFunc⟩ := ty_mk Tryd.underlying184 (by kernel_rfl)
theorem ty185 : ty Tryd.prog 185 = some ⟨(.func #[44, 122] #[83] false), 1, 8, .nilFunc⟩ := ty_mk Tryd.underlying185 (by kernel_rfl)
theorem ty186 : ty Tryd.prog 186 = some ⟨(.func #[47, 122] #[44] false), 1, 8, .nilFunc⟩ := ty_mk Tryd.underlying186 (by kernel_rfl)
theorem ty187 : ty Tryd.prog 187 = some ⟨(.func #[25, 9] #[3, 4] false), 1, 8, .nilFunc⟩ := ty_mk Tryd.underlying187 (by kernel_rfl)
theorem ty188 : ty Tryd.prog 188 = some ⟨(.func #[44, 49, 44] #[44] false), 1, 8, .nilFunc⟩ := ty_mk Tryd.underlying188 (by kernel_rfl)
theorem ty189 : ty Tryd.prog 189 = some ⟨(.func #[3] #[181] false), 1, 8, .nilFunc⟩ := ty_mk Tryd.underlying189 (by kernel_rfl)
theorem ty190 : ty Tryd.prog 190 = some ⟨(.func #[148, 47, 114] #[] false), 1, 8, .nilFunc⟩ := ty_mk Tryd.underlying190 (by kernel_rfl)
theorem ty191 : ty Tryd.prog 191 = some ⟨(.func #[49] #[4] false), 1, 8, .nilFunc⟩ := ty_mk Tryd.underlying191 (by kernel_rfl)
theorem ty192 : ty Tryd.prog 192 = some ⟨(.func #[44, 44] #[44] true), 1, 8, .nilFunc⟩ := ty_mk Tryd.underlying192 (by kernel_rfl)
theorem ty193 : ty Tryd.prog 193 = some ⟨(.func #[148, 4, 44] #[] false), 1, 8, .nilFunc⟩ := ty_mk Tryd.underlying193 (by kernel_rfl)
theorem ty194 : ty Tryd.prog 194 = some ⟨(.func #[44, 44, 9] #[44] false), 1, 8, .nilFunc⟩ := ty_mk Tryd.underlying194 (by kernel_rfl)
theorem ty195 : ty Tryd.prog 195 = some ⟨(.func #[44, 64] #[4] false), 1, 8, .nilFunc⟩ := ty_mk Tryd.underlying195 (by kernel_rfl)
theorem ty196 : ty Tryd.prog 196 = some ⟨(.func #[] #[9] false), 1, 8, .nilFunc⟩ := ty_mk Tryd.underlying196 (by kernel_rfl)
theorem ty199 : ty Tryd.prog 199 = some ⟨(.array 0 16), 0, 0, (.agg #[])⟩ := ty_mk Tryd.underlying199 (by kernel_rfl)
theorem ty202 : ty Tryd.prog 202 = some ⟨(.func #[] #[3] false), 1, 8, .nilFunc⟩ := ty_mk Tryd.underlying202 (by kernel_rfl)
theorem ty203 : ty Tryd.prog 203 = some ⟨(.int .u32), 1, 4, (.int .u32 0)⟩ := ty_mk Tryd.underlying203 (by kernel_rfl)
theorem ty204 : ty Tryd.prog 204 = some ⟨(.int .u8), 1, 1, (.int .u8 0)⟩ := ty_mk Tryd.underlying204 (by kernel_rfl)
theorem ty205 : ty Tryd.prog 205 = some ⟨(.int .u8), 1, 1, (.int .u8 0)⟩ := ty_mk Tryd.underlying205 (by kernel_rfl)
theorem ty206 : ty Tryd.prog 206 = some ⟨(.func #[212, 212] #[4] false), 1, 8, .nilFunc⟩ := ty_mk Tryd.underlying206 (by kernel_rfl)
theorem ty207 : ty Tryd.prog 207 = some ⟨(.pointer 5), 1, 8, (.pointer none)⟩ := ty_mk Tryd.underlying207 (by kernel_rfl)
theorem ty208 : ty Tryd.prog 208 = some ⟨(.int .i32), 1, 4, (.int .i32 0)⟩ := ty_mk Tryd.underlying208 (by kernel_rfl)
theorem ty209 : ty Tryd.prog 209 = some ⟨(.int .i32), 1, 4, (.int .i32 0)⟩ := ty_mk Tryd.underlying209 (by kernel_rfl)
theorem ty211 : ty Tryd.prog 211 = some ⟨(.struct #[{ name := "Size_", type := 12, offset := 0, embedded := false, tag := "", pkgPath := "", byteOffset := 0 }, { name := "PtrBytes", type := 12, offset := 1, embedded := false, tag := "", pkgPath := "", byteOffset := 8 }, { name := "Hash", type := 203, offset := 2, embedded := false, tag := "", pkgPath := "", byteOffset := 16 }, { name := "TFlag", type := 204, offset := 3, embedded := false, tag := "", pkgPath := "", byteOffset := 20 }, { name := "Align_", type := 5, offset := 4, embedded := false, tag := "", pkgPath := "", byteOffset := 21 }, { name := "FieldAlign_", type := 5, offset := 5, embedded := false, tag := "", pkgPath := "", byteOffset := 22 }, { name := "Kind_", type := 205, offset := 6, embedded := false, tag := "", pkgPath := "", byteOffset := 23 }, { name := "Equal", type := 206, offset := 7, embedded := false, tag := "", pkgPath := "", byteOffset := 24 }, { name := "GCData", type := 207, offset := 8, embedded := false, tag := "", pkgPath := "", byteOffset := 32 }, { name := "Str", type := 208, offset := 9, embedded := false, tag := "", pkgPath := "", byteOffset := 40 }, { name := "PtrToThis", type := 209, offset := 10, embedded := false, tag := "", pkgPath := "", byteOffset := 44 }]), 11, 48, (.agg #[(.int .u64 0), (.int .u64 0), (.int .u32 0), (.int .u8 0), (.int .u8 0), (.int .u8 0), (.int .u8 0), .nilFunc, (.pointer none), (.int .i32 0), (.int .i32 0)])⟩ := ty_mk Tryd.underlying211 (by kernel_rfl)
theorem fd25_0 : fdAt Tryd.prog 25 0 = some (0, ⟨(.slice 72), 1, 24, (.slice none 0 0)⟩) := fdAt_mk Tryd.underlying25 rfl ty22
theorem fd25_1 : fdAt Tryd.prog 25 1 = some (1, ⟨(.slice 53), 1, 24, (.slice none 0 0)⟩) := fdAt_mk Tryd.underlying25 rfl ty23
theorem fd31_0 : fdAt Tryd.prog 31 0 = some (0, ⟨(.slice 74), 1, 24, (.slice none 0 0)⟩) := fdAt_mk Tryd.underlying31 rfl ty26
theorem fd31_1 : fdAt Tryd.prog 31 1 = some (1, ⟨(.slice 43), 1, 24, (.slice none 0 0)⟩) := fdAt_mk Tryd.underlying31 rfl ty27
theorem fd31_2 : fdAt Tryd.prog 31 2 = some (2, ⟨(.slice 41), 1, 24, (.slice none 0 0)⟩) := fdAt_mk Tryd.underlying31 rfl ty28
theorem fd31_3 : fdAt Tryd.prog 31 3 = some (3, ⟨(.slice 89), 1, 24, (.slice none 0 0)⟩) := fdAt_mk Tryd.underlying31 rfl ty29
theorem fd41_0 : fdAt Tryd.prog 41 0 = some (0, ⟨(.int .i64), 1, 8, (.int .i64 0)⟩) := fdAt_mk Tryd.underlying41 rfl ty3
theorem fd41_1 : fdAt Tryd.prog 41 1 = some (1, ⟨(.int .i64), 1, 8, (.int .i64 0)⟩) := fdAt_mk Tryd.underlying41 rfl ty3
theorem fd41_2 : fdAt Tryd.prog 41 2 = some (2, ⟨(.int .i64), 1, 8, (.int .i64 0)⟩) := fdAt_mk Tryd.underlying41 rfl ty3
theorem fd41_3 : fdAt Tryd.prog 41 3 = some (3, ⟨(.int .i64), 1, 8, (.int .i64 0)⟩) := fdAt_mk Tryd.underlying41 rfl ty3
theorem fd43_0 : fdAt Tryd.prog 43 0 = some (0, ⟨.string, 1, 16, (.string ⟨#[]⟩)⟩) := fdAt_mk Tryd.underlying43 rfl ty9
theorem fd43_1 : fdAt Tryd.prog 43 1 = some (1, ⟨(.int .i64), 1, 8, (.int .i64 0)⟩) := fdAt_mk Tryd.underlying43 rfl ty3
theorem fd49_0 : fdAt Tryd.prog 49 0 = some (0, ⟨(.int .i64), 1, 8, (.int .i64 0)⟩) := fdAt_mk Tryd.underlying49 rfl ty3
theorem fd49_1 : fdAt Tryd.prog 49 1 = some (1, ⟨(.int .i64), 1, 8, (.int .i64 0)⟩) := fdAt_mk Tryd.underlying49 rfl ty3
theorem fd49_2 : fdAt Tryd.prog 49 2 = some (2, ⟨.string, 1, 16, (.string ⟨#[]⟩)⟩) := fdAt_mk Tryd.underlying49 rfl ty9
theorem fd49_3 : fdAt Tryd.prog 49 3 = some (3, ⟨(.int .i64), 1, 8, (.int .i64 0)⟩) := fdAt_mk Tryd.underlying49 rfl ty2
theorem fd49_4 : fdAt Tryd.prog 49 4 = some (4, ⟨(.slice 146), 1, 24, (.slice none 0 0)⟩) := fdAt_mk Tryd.underlying49 rfl ty45
theorem fd49_5 : fdAt Tryd.prog 49 5 = some (5, ⟨(.slice 53), 1, 24, (.slice none 0 0)⟩) := fdAt_mk Tryd.underlying49 rfl ty23
theorem fd49_6 : fdAt Tryd.prog 49 6 = some (6, ⟨(.slice 49), 1, 24, (.slice none 0 0)⟩) := fdAt_mk Tryd.underlying49 rfl ty46
theorem fd49_7 : fdAt Tryd.prog 49 7 = some (7, ⟨(.slice 148), 1, 24, (.slice none 0 0)⟩) := fdAt_mk Tryd.underlying49 rfl ty47
theorem fd51_0 : fdAt Tryd.prog 51 0 = some (0, ⟨(.slice 9), 1, 24, (.slice none 0 0)⟩) := fdAt_mk Tryd.underlying51 rfl ty44
theorem fd51_1 : fdAt Tryd.prog 51 1 = some (1, ⟨(.struct #[{ name := "Kind", type := 3, offset := 0, embedded := false, tag := "", pkgPath := "", byteOffset := 0 }, { name := "At", type := 3, offset := 1, embedded := false, tag := "", pkgPath := "", byteOffset := 8 }, { name := "Name", type := 9, offset := 2, embedded := false, tag := "", pkgPath := "", byteOffset := 16 }, { name := "N", type := 2, offset := 3, embedded := false, tag := "", pkgPath := "", byteOffset := 32 }, { name := "Atoms", type := 45, offset := 4, embedded := false, tag := "", pkgPath := "", byteOffset := 40 }, { name := "Binds", type := 23, offset := 5, embedded := false, tag := "", pkgPath := "", byteOffset := 64 }, { name := "Kids", type := 46, offset := 6, embedded := false, tag := "", pkgPath := "", byteOffset := 88 }, { name := "Alts", type := 47, offset := 7, embedded := false, tag := "", pkgPath := "", byteOffset := 112 }]), 8, 136, (.agg #[(.int .i64 0), (.int .i64 0), (.string ⟨#[]⟩), (.int .i64 0), (.slice none 0 0), (.slice none 0 0), (.slice none 0 0), (.slice none 0 0)])⟩) := fdAt_mk Tryd.underlying51 rfl ty49
theorem fd53_0 : fdAt Tryd.prog 53 0 = some (0, ⟨.string, 1, 16, (.string ⟨#[]⟩)⟩) := fdAt_mk Tryd.underlying53 rfl ty9
theorem fd53_1 : fdAt Tryd.prog 53 1 = some (1, ⟨(.int .i64), 1, 8, (.int .i64 0)⟩) := fdAt_mk Tryd.underlying53 rfl ty3
theorem fd53_2 : fdAt Tryd.prog 53 2 = some (2, ⟨(.struct #[{ name := "Args", type := 44, offset := 0, embedded := false, tag := "", pkgPath := "", byteOffset := 0 }, { name := "Body", type := 49, offset := 1, embedded := false, tag := "", pkgPath := "", byteOffset := 24 }]), 9, 160, (.agg #[(.slice none 0 0), (.int .i64 0), (.int .i64 0), (.string ⟨#[]⟩), (.int .i64 0), (.slice none 0 0), (.slice none 0 0), (.slice none 0 0), (.slice none 0 0)])⟩) := fdAt_mk Tryd.underlying53 rfl ty51
theorem fd70_0 : fdAt Tryd.prog 70 0 = some (0, ⟨(.struct #[{ name := "Cons", type := 26, offset := 0, embedded := false, tag := "", pkgPath := "", byteOffset := 0 }, { name := "Globals", type := 27, offset := 1, embedded := false, tag := "", pkgPath := "", byteOffset := 24 }, { name := "Infos", type := 28, offset := 2, embedded := false, tag := "", pkgPath := "", byteOffset := 48 }, { name := "Insns", type := 29, offset := 3, embedded := false, tag := "", pkgPath := "", byteOffset := 72 }]), 4, 96, (.agg #[(.slice none 0 0), (.slice none 0 0), (.slice none 0 0), (.slice none 0 0)])⟩) := fdAt_mk Tryd.underlying70 rfl ty31
theorem fd70_1 : fdAt Tryd.prog 70 1 = some (4, ⟨(.map 9 3), 1, 8, (.map none)⟩) := fdAt_mk Tryd.underlying70 rfl ty67
theorem fd70_2 : fdAt Tryd.prog 70 2 = some (5, ⟨(.map 9 3), 1, 8, (.map none)⟩) := fdAt_mk Tryd.underlying70 rfl ty67
theorem fd70_3 : fdAt Tryd.prog 70 3 = some (6, ⟨(.slice 1), 1, 24, (.slice none 0 0)⟩) := fdAt_mk Tryd.underlying70 rfl ty68
theorem fd70_4 : fdAt Tryd.prog 70 4 = some (7, ⟨.bool, 1, 1, (.bool false)⟩) := fdAt_mk Tryd.underlying70 rfl ty4
theorem fd72_0 : fdAt Tryd.prog 72 0 = some (0, ⟨.string, 1, 16, (.string ⟨#[]⟩)⟩) := fdAt_mk Tryd.underlying72 rfl ty9
theorem fd72_1 : fdAt Tryd.prog 72 1 = some (1, ⟨(.int .i64), 1, 8, (.int .i64 0)⟩) := fdAt_mk Tryd.underlying72 rfl ty3
theorem fd72_2 : fdAt Tryd.prog 72 2 = some (2, ⟨(.int .i64), 1, 8, (.int .i64 0)⟩) := fdAt_mk Tryd.underlying72 rfl ty3
theorem fd74_0 : fdAt Tryd.prog 74 0 = some (0, ⟨.string, 1, 16, (.string ⟨#[]⟩)⟩) := fdAt_mk Tryd.underlying74 rfl ty9
theorem fd74_1 : fdAt Tryd.prog 74 1 = some (1, ⟨(.int .i64), 1, 8, (.int .i64 0)⟩) := fdAt_mk Tryd.underlying74 rfl ty3
theorem fd80_0 : fdAt Tryd.prog 80 0 = some (0, ⟨(.struct #[{ name := "Datas", type := 22, offset := 0, embedded := false, tag := "", pkgPath := "", byteOffset := 0 }, { name := "Binds", type := 23, offset := 1, embedded := false, tag := "", pkgPath := "", byteOffset := 24 }]), 2, 48, (.agg #[(.slice none 0 0), (.slice none 0 0)])⟩) := fdAt_mk Tryd.underlying80 rfl ty25
theorem fd80_1 : fdAt Tryd.prog 80 1 = some (2, ⟨(.struct #[{ name := "Cons", type := 26, offset := 0, embedded := false, tag := "", pkgPath := "", byteOffset := 0 }, { name := "Globals", type := 27, offset := 1, embedded := false, tag := "", pkgPath := "", byteOffset := 24 }, { name := "Infos", type := 28, offset := 2, embedded := false, tag := "", pkgPath := "", byteOffset := 48 }, { name := "Insns", type := 29, offset := 3, embedded := false, tag := "", pkgPath := "", byteOffset := 72 }]), 4, 96, (.agg #[(.slice none 0 0), (.slice none 0 0), (.slice none 0 0), (.slice none 0 0)])⟩) := fdAt_mk Tryd.underlying80 rfl ty31
theorem fd80_2 : fdAt Tryd.prog 80 2 = some (6, ⟨(.slice 51), 1, 24, (.slice none 0 0)⟩) := fdAt_mk Tryd.underlying80 rfl ty77
theorem fd80_3 : fdAt Tryd.prog 80 3 = some (7, ⟨(.slice 44), 1, 24, (.slice none 0 0)⟩) := fdAt_mk Tryd.underlying80 rfl ty78
theorem fd80_4 : fdAt Tryd.prog 80 4 = some (8, ⟨.bool, 1, 1, (.bool false)⟩) := fdAt_mk Tryd.underlying80 rfl ty4
theorem fd85_0 : fdAt Tryd.prog 85 0 = some (0, ⟨(.int .i64), 1, 8, (.int .i64 0)⟩) := fdAt_mk Tryd.underlying85 rfl ty3
theorem fd85_1 : fdAt Tryd.prog 85 1 = some (1, ⟨(.int .i64), 1, 8, (.int .i64 0)⟩) := fdAt_mk Tryd.underlying85 rfl ty3
theorem fd85_2 : fdAt Tryd.prog 85 2 = some (2, ⟨(.int .i64), 1, 8, (.int .i64 0)⟩) := fdAt_mk Tryd.underlying85 rfl ty2
theorem fd85_3 : fdAt Tryd.prog 85 3 = some (3, ⟨(.slice 3), 1, 24, (.slice none 0 0)⟩) := fdAt_mk Tryd.underlying85 rfl ty83
theorem fd89_0 : fdAt Tryd.prog 89 0 = some (0, ⟨(.int .i64), 1, 8, (.int .i64 0)⟩) := fdAt_mk Tryd.underlying89 rfl ty3
theorem fd89_1 : fdAt Tryd.prog 89 1 = some (1, ⟨(.int .i64), 1, 8, (.int .i64 0)⟩) := fdAt_mk Tryd.underlying89 rfl ty3
theorem fd89_2 : fdAt Tryd.prog 89 2 = some (2, ⟨(.int .i64), 1, 8, (.int .i64 0)⟩) := fdAt_mk Tryd.underlying89 rfl ty3
theorem fd89_3 : fdAt Tryd.prog 89 3 = some (3, ⟨(.slice 3), 1, 24, (.slice none 0 0)⟩) := fdAt_mk Tryd.underlying89 rfl ty83
theorem fd89_4 : fdAt Tryd.prog 89 4 = some (4, ⟨(.slice 3), 1, 24, (.slice none 0 0)⟩) := fdAt_mk Tryd.underlying89 rfl ty83
theorem fd89_5 : fdAt Tryd.prog 89 5 = some (5, ⟨(.slice 85), 1, 24, (.slice none 0 0)⟩) := fdAt_mk Tryd.underlying89 rfl ty86
theorem fd89_6 : fdAt Tryd.prog 89 6 = some (6, ⟨(.slice 138), 1, 24, (.slice none 0 0)⟩) := fdAt_mk Tryd.underlying89 rfl ty87
theorem fd97_0 : fdAt Tryd.prog 97 0 = some (0, ⟨(.slice 99), 1, 24, (.slice none 0 0)⟩) := fdAt_mk Tryd.underlying97 rfl ty59
theorem fd97_1 : fdAt Tryd.prog 97 1 = some (1, ⟨(.int .i64), 1, 8, (.int .i64 0)⟩) := fdAt_mk Tryd.underlying97 rfl ty3
theorem fd97_2 : fdAt Tryd.prog 97 2 = some (2, ⟨(.int .i64), 1, 8, (.int .i64 0)⟩) := fdAt_mk Tryd.underlying97 rfl ty3
theorem fd97_3 : fdAt Tryd.prog 97 3 = some (3, ⟨.bool, 1, 1, (.bool false)⟩) := fdAt_mk Tryd.underlying97 rfl ty4
theorem fd97_4 : fdAt Tryd.prog 97 4 = some (4, ⟨(.int .i64), 1, 8, (.int .i64 0)⟩) := fdAt_mk Tryd.underlying97 rfl ty32
theorem fd97_5 : fdAt Tryd.prog 97 5 = some (5, ⟨(.int .i64), 1, 8, (.int .i64 0)⟩) := fdAt_mk Tryd.underlying97 rfl ty3
theorem fd99_0 : fdAt Tryd.prog 99 0 = some (0, ⟨(.int .i64), 1, 8, (.int .i64 0)⟩) := fdAt_mk Tryd.underlying99 rfl ty3
theorem fd99_1 : fdAt Tryd.prog 99 1 = some (1, ⟨.string, 1, 16, (.string ⟨#[]⟩)⟩) := fdAt_mk Tryd.underlying99 rfl ty9
theorem fd99_2 : fdAt Tryd.prog 99 2 = some (2, ⟨(.int .i64), 1, 8, (.int .i64 0)⟩) := fdAt_mk Tryd.underlying99 rfl ty2
theorem fd99_3 : fdAt Tryd.prog 99 3 = some (3, ⟨(.int .i64), 1, 8, (.int .i64 0)⟩) := fdAt_mk Tryd.underlying99 rfl ty3
theorem fd112_0 : fdAt Tryd.prog 112 0 = some (0, ⟨(.map 9 3), 1, 8, (.map none)⟩) := fdAt_mk Tryd.underlying112 rfl ty67
theorem fd112_1 : fdAt Tryd.prog 112 1 = some (1, ⟨(.pointer 121), 1, 8, (.pointer none)⟩) := fdAt_mk Tryd.underlying112 rfl ty110
theorem fd117_0 : fdAt Tryd.prog 117 0 = some (0, ⟨(.map 9 3), 1, 8, (.map none)⟩) := fdAt_mk Tryd.underlying117 rfl ty67
theorem fd117_1 : fdAt Tryd.prog 117 1 = some (1, ⟨(.pointer 117), 1, 8, (.pointer none)⟩) := fdAt_mk Tryd.underlying117 rfl ty114
theorem fd121_0 : fdAt Tryd.prog 121 0 = some (0, ⟨(.int .i64), 1, 8, (.int .i64 0)⟩) := fdAt_mk Tryd.underlying121 rfl ty3
theorem fd121_1 : fdAt Tryd.prog 121 1 = some (1, ⟨(.int .i64), 1, 8, (.int .i64 0)⟩) := fdAt_mk Tryd.underlying121 rfl ty32
theorem fd126_0 : fdAt Tryd.prog 126 0 = some (0, ⟨(.struct #[{ name := "Datas", type := 22, offset := 0, embedded := false, tag := "", pkgPath := "", byteOffset := 0 }, { name := "Binds", type := 23, offset := 1, embedded := false, tag := "", pkgPath := "", byteOffset := 24 }]), 2, 48, (.agg #[(.slice none 0 0), (.slice none 0 0)])⟩) := fdAt_mk Tryd.underlying126 rfl ty25
theorem fd126_1 : fdAt Tryd.prog 126 1 = some (2, ⟨.bool, 1, 1, (.bool false)⟩) := fdAt_mk Tryd.underlying126 rfl ty4
theorem fd126_2 : fdAt Tryd.prog 126 2 = some (3, ⟨(.int .i64), 1, 8, (.int .i64 0)⟩) := fdAt_mk Tryd.underlying126 rfl ty3
theorem fd126_3 : fdAt Tryd.prog 126 3 = some (4, ⟨(.int .i64), 1, 8, (.int .i64 0)⟩) := fdAt_mk Tryd.underlying126 rfl ty32
theorem fd138_0 : fdAt Tryd.prog 138 0 = some (0, ⟨(.int .i64), 1, 8, (.int .i64 0)⟩) := fdAt_mk Tryd.underlying138 rfl ty3
theorem fd138_1 : fdAt Tryd.prog 138 1 = some (1, ⟨(.int .i64), 1, 8, (.int .i64 0)⟩) := fdAt_mk Tryd.underlying138 rfl ty3
theorem fd138_2 : fdAt Tryd.prog 138 2 = some (2, ⟨(.int .i64), 1, 8, (.int .i64 0)⟩) := fdAt_mk Tryd.underlying138 rfl ty2
theorem fd138_3 : fdAt Tryd.prog 138 3 = some (3, ⟨(.int .i64), 1, 8, (.int .i64 0)⟩) := fdAt_mk Tryd.underlying138 rfl ty3
theorem fd146_0 : fdAt Tryd.prog 146 0 = some (0, ⟨.string, 1, 16, (.string ⟨#[]⟩)⟩) := fdAt_mk Tryd.underlying146 rfl ty9
theorem fd146_1 : fdAt Tryd.prog 146 1 = some (1, ⟨(.int .i64), 1, 8, (.int .i64 0)⟩) := fdAt_mk Tryd.underlying146 rfl ty2
theorem fd148_0 : fdAt Tryd.prog 148 0 = some (0, ⟨(.int .i64), 1, 8, (.int .i64 0)⟩) := fdAt_mk Tryd.underlying148 rfl ty3
theorem fd148_1 : fdAt Tryd.prog 148 1 = some (1, ⟨(.int .i64), 1, 8, (.int .i64 0)⟩) := fdAt_mk Tryd.underlying148 rfl ty3
theorem fd148_2 : fdAt Tryd.prog 148 2 = some (2, ⟨.string, 1, 16, (.string ⟨#[]⟩)⟩) := fdAt_mk Tryd.underlying148 rfl ty9
theorem fd148_3 : fdAt Tryd.prog 148 3 = some (3, ⟨(.int .i64), 1, 8, (.int .i64 0)⟩) := fdAt_mk Tryd.underlying148 rfl ty2
theorem fd148_4 : fdAt Tryd.prog 148 4 = some (4, ⟨(.slice 9), 1, 24, (.slice none 0 0)⟩) := fdAt_mk Tryd.underlying148 rfl ty44
theorem fd148_5 : fdAt Tryd.prog 148 5 = some (5, ⟨(.struct #[{ name := "Kind", type := 3, offset := 0, embedded := false, tag := "", pkgPath := "", byteOffset := 0 }, { name := "At", type := 3, offset := 1, embedded := false, tag := "", pkgPath := "", byteOffset := 8 }, { name := "Name", type := 9, offset := 2, embedded := false, tag := "", pkgPath := "", byteOffset := 16 }, { name := "N", type := 2, offset := 3, embedded := false, tag := "", pkgPath := "", byteOffset := 32 }, { name := "Atoms", type := 45, offset := 4, embedded := false, tag := "", pkgPath := "", byteOffset := 40 }, { name := "Binds", type := 23, offset := 5, embedded := false, tag := "", pkgPath := "", byteOffset := 64 }, { name := "Kids", type := 46, offset := 6, embedded := false, tag := "", pkgPath := "", byteOffset := 88 }, { name := "Alts", type := 47, offset := 7, embedded := false, tag := "", pkgPath := "", byteOffset := 112 }]), 8, 136, (.agg #[(.int .i64 0), (.int .i64 0), (.string ⟨#[]⟩), (.int .i64 0), (.slice none 0 0), (.slice none 0 0), (.slice none 0 0), (.slice none 0 0)])⟩) := fdAt_mk Tryd.underlying148 rfl ty49
theorem fd181_0 : fdAt Tryd.prog 181 0 = some (0, ⟨.string, 1, 16, (.string ⟨#[]⟩)⟩) := fdAt_mk Tryd.underlying181 rfl ty9
theorem fd181_1 : fdAt Tryd.prog 181 1 = some (1, ⟨(.int .i64), 1, 8, (.int .i64 0)⟩) := fdAt_mk Tryd.underlying181 rfl ty3
theorem fd181_2 : fdAt Tryd.prog 181 2 = some (2, ⟨(.array 3 3), 3, 24, (.agg #[(.int .i64 0), (.int .i64 0), (.int .i64 0)])⟩) := fdAt_mk Tryd.underlying181 rfl ty179
theorem fd211_0 : fdAt Tryd.prog 211 0 = some (0, ⟨(.int .u64), 1, 8, (.int .u64 0)⟩) := fdAt_mk Tryd.underlying211 rfl ty12
theorem fd211_1 : fdAt Tryd.prog 211 1 = some (1, ⟨(.int .u64), 1, 8, (.int .u64 0)⟩) := fdAt_mk Tryd.underlying211 rfl ty12
theorem fd211_2 : fdAt Tryd.prog 211 2 = some (2, ⟨(.int .u32), 1, 4, (.int .u32 0)⟩) := fdAt_mk Tryd.underlying211 rfl ty203
theorem fd211_3 : fdAt Tryd.prog 211 3 = some (3, ⟨(.int .u8), 1, 1, (.int .u8 0)⟩) := fdAt_mk Tryd.underlying211 rfl ty204
theorem fd211_4 : fdAt Tryd.prog 211 4 = some (4, ⟨(.int .u8), 1, 1, (.int .u8 0)⟩) := fdAt_mk Tryd.underlying211 rfl ty5
theorem fd211_5 : fdAt Tryd.prog 211 5 = some (5, ⟨(.int .u8), 1, 1, (.int .u8 0)⟩) := fdAt_mk Tryd.underlying211 rfl ty5
theorem fd211_6 : fdAt Tryd.prog 211 6 = some (6, ⟨(.int .u8), 1, 1, (.int .u8 0)⟩) := fdAt_mk Tryd.underlying211 rfl ty205
theorem fd211_7 : fdAt Tryd.prog 211 7 = some (7, ⟨(.func #[212, 212] #[4] false), 1, 8, .nilFunc⟩) := fdAt_mk Tryd.underlying211 rfl ty206
theorem fd211_8 : fdAt Tryd.prog 211 8 = some (8, ⟨(.pointer 5), 1, 8, (.pointer none)⟩) := fdAt_mk Tryd.underlying211 rfl ty207
theorem fd211_9 : fdAt Tryd.prog 211 9 = some (9, ⟨(.int .i32), 1, 4, (.int .i32 0)⟩) := fdAt_mk Tryd.underlying211 rfl ty208
theorem fd211_10 : fdAt Tryd.prog 211 10 = some (10, ⟨(.int .i32), 1, 4, (.int .i32 0)⟩) := fdAt_mk Tryd.underlying211 rfl ty209
attribute [push_cast] ty1 ty2 ty3 ty4 ty5 ty6 ty9 ty10 ty11 ty12 ty15 ty16 ty17 ty20 ty21 ty22 ty23 ty25 ty26 ty27 ty28 ty29 ty31 ty32 ty34 ty35 ty36 ty37 ty39 ty41 ty43 ty44 ty45 ty46 ty47 ty49 ty51 ty53 ty54 ty55 ty56 ty58 ty59 ty61 ty63 ty64 ty65 ty66 ty67 ty68 ty70 ty72 ty74 ty75 ty76 ty77 ty78 ty80 ty81 ty82 ty83 ty85 ty86 ty87 ty89 ty90 ty91 ty92 ty93 ty94 ty95 ty97 ty99 ty100 ty101 ty102 ty103 ty105 ty106 ty108 ty109 ty110 ty112 ty114 ty115 ty117 ty118 ty119 ty121 ty122 ty123 ty124 ty126 ty127 ty128 ty129 ty130 ty131 ty132 ty133 ty134 ty135 ty136 ty138 ty139 ty140 ty141 ty142 ty143 ty144 ty146 ty148 ty149 ty150 ty151 ty152 ty153 ty155 ty156 ty157 ty158 ty159 ty160 ty161 ty162 ty163 ty164 ty165 ty166 ty167 ty169 ty170 ty171 ty172 ty173 ty174 ty175 ty176 ty177 ty178 ty179 ty181 ty182 ty183 ty184 ty185 ty186 ty187 ty188 ty189 ty190 ty191 ty192 ty193 ty194 ty195 ty196 ty199 ty202 ty203 ty204 ty205 ty206 ty207 ty208 ty209 ty211 fd25_0 fd25_1 fd31_0 fd31_1 fd31_2 fd31_3 fd41_0 fd41_1 fd41_2 fd41_3 fd43_0 fd43_1 fd49_0 fd49_1 fd49_2 fd49_3 fd49_4 fd49_5 fd49_6 fd49_7 fd51_0 fd51_1 fd53_0 fd53_1 fd53_2 fd70_0 fd70_1 fd70_2 fd70_3 fd70_4 fd72_0 fd72_1 fd72_2 fd74_0 fd74_1 fd80_0 fd80_1 fd80_2 fd80_3 fd80_4 fd85_0 fd85_1 fd85_2 fd85_3 fd89_0 fd89_1 fd89_2 fd89_3 fd89_4 fd89_5 fd89_6 fd97_0 fd97_1 fd97_2 fd97_3 fd97_4 fd97_5 fd99_0 fd99_1 fd99_2 fd99_3 fd112_0 fd112_1 fd117_0 fd117_1 fd121_0 fd121_1 fd126_0 fd126_1 fd126_2 fd126_3 fd138_0 fd138_1 fd138_2 fd138_3 fd146_0 fd146_1 fd148_0 fd148_1 fd148_2 fd148_3 fd148_4 fd148_5 fd181_0 fd181_1 fd181_2 fd211_0 fd211_1 fd211_2 fd211_3 fd211_4 fd211_5 fd211_6 fd211_7 fd211_8 fd211_9 fd211_10
end Go.Proofs.YtoepmdbicdoieaaDoor.T
