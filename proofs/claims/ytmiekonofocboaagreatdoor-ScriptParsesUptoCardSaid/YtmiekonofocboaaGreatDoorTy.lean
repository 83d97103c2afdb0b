/- What the program's table says of its types: facts for the engine. Written by genty.py out of the translation. -/
import Derived.Test.YtmiekonofocboaaGreatDoorEB
import Derived.Test.YtmiekonofocboaaGreatDoorProg
import Derived.KernelRfl
namespace Go.Proofs.YtmiekonofocboaaGreatDoor.T
open Go Go.Eng Go.Proofs
theorem ty1 : ty Tryz.prog 1 = some ⟨(.func #[] #[] false), 1, 8, .nilFunc⟩ := ty_mk Tryz.underlying1 (by kernel_rfl)
theorem ty2 : ty Tryz.prog 2 = some ⟨(.int .i64), 1, 8, (.int .i64 0)⟩ := ty_mk Tryz.underlying2 (by kernel_rfl)
theorem ty3 : ty Tryz.prog 3 = some ⟨(.int .i64), 1, 8, (.int .i64 0)⟩ := ty_mk Tryz.underlying3 (by kernel_rfl)
theorem ty4 : ty Tryz.prog 4 = some ⟨.bool, 1, 1, (.bool false)⟩ := ty_mk Tryz.underlying4 (by kernel_rfl)
theorem ty5 : ty Tryz.prog 5 = some ⟨(.int .u8), 1, 1, (.int .u8 0)⟩ := ty_mk Tryz.underlying5 (by kernel_rfl)
theorem ty6 : ty Tryz.prog 6 = some ⟨(.int .u8), 1, 1, (.int .u8 0)⟩ := ty_mk Tryz.underlying6 (by kernel_rfl)
theorem ty9 : ty Tryz.prog 9 = some ⟨.string, 1, 16, (.string ⟨#[]⟩)⟩ := ty_mk Tryz.underlying9 (by kernel_rfl)
theorem ty10 : ty Tryz.prog 10 = some ⟨.string, 1, 16, (.string ⟨#[]⟩)⟩ := ty_mk Tryz.underlying10 (by kernel_rfl)
theorem ty11 : ty Tryz.prog 11 = some ⟨.string, 1, 16, (.string ⟨#[]⟩)⟩ := ty_mk Tryz.underlying11 (by kernel_rfl)
theorem ty12 : ty Tryz.prog 12 = some ⟨(.int .u64), 1, 8, (.int .u64 0)⟩ := ty_mk Tryz.underlying12 (by kernel_rfl)
theorem ty15 : ty Tryz.prog 15 = some ⟨(.pointer 412), 1, 8, (.pointer none)⟩ := ty_mk Tryz.underlying15 (by kernel_rfl)
theorem ty16 : ty Tryz.prog 16 = some ⟨(.pointer 415), 1, 8, (.pointer none)⟩ := ty_mk Tryz.underlying16 (by kernel_rfl)
theorem ty17 : ty Tryz.prog 17 = some ⟨(.pointer 423), 1, 8, (.pointer none)⟩ := ty_mk Tryz.underlying17 (by kernel_rfl)
theorem ty20 : ty Tryz.prog 20 = some ⟨(.interface #[]), 1, 16, .nilIface⟩ := ty_mk Tryz.underlying20 (by kernel_rfl)
theorem ty21 : ty Tryz.prog 21 = some ⟨(.int .i32), 1, 4, (.int .i32 0)⟩ := ty_mk Tryz.underlying21 (by kernel_rfl)
theorem ty23 : ty Tryz.prog 23 = some ⟨(.struct #[{ name := "Gens", type := 3, offset := 0, embedded := false, tag := "", pkgPath := "", byteOffset := 0 }, { name := "Steps", type := 3, offset := 1, embedded := false, tag := "", pkgPath := "", byteOffset := 8 }, { name := "Blocks", type := 3, offset := 2, embedded := false, tag := "", pkgPath := "", byteOffset := 16 }, { name := "Nursery", type := 3, offset := 3, embedded := false, tag := "", pkgPath := "", byteOffset := 24 }, { name := "Hops", type := 3, offset := 4, embedded := false, tag := "", pkgPath := "", byteOffset := 32 }]), 5, 40, (.agg #[(.int .i64 0), (.int .i64 0), (.int .i64 0), (.int .i64 0), (.int .i64 0)])⟩ := ty_mk Tryz.underlying23 (by kernel_rfl)
theorem ty24 : ty Tryz.prog 24 = some ⟨(.slice 51), 1, 24, (.slice none 0 0)⟩ := ty_mk Tryz.underlying24 (by kernel_rfl)
theorem ty26 : ty Tryz.prog 26 = some ⟨(.struct #[{ name := "K", type := 23, offset := 0, embedded := false, tag := "", pkgPath := "", byteOffset := 0 }, { name := "Words", type := 3, offset := 5, embedded := false, tag := "", pkgPath := "", byteOffset := 40 }, { name := "Text", type := 9, offset := 6, embedded := false, tag := "", pkgPath := "", byteOffset := 48 }, { name := "Lines", type := 24, offset := 7, embedded := false, tag := "", pkgPath := "", byteOffset := 64 }]), 8, 88, (.agg #[(.int .i64 0), (.int .i64 0), (.int .i64 0), (.int .i64 0), (.int .i64 0), (.int .i64 0), (.string ⟨#[]⟩), (.slice none 0 0)])⟩ := ty_mk Tryz.underlying26 (by kernel_rfl)
theorem ty27 : ty Tryz.prog 27 = some ⟨(.int .i64), 1, 8, (.int .i64 0)⟩ := ty_mk Tryz.underlying27 (by kernel_rfl)
theorem ty29 : ty Tryz.prog 29 = some ⟨(.func #[9] #[26, 3, 27] false), 1, 8, .nilFunc⟩ := ty_mk Tryz.underlying29 (by kernel_rfl)
theorem ty30 : ty Tryz.prog 30 = some ⟨(.func #[] #[4] false), 1, 8, .nilFunc⟩ := ty_mk Tryz.underlying30 (by kernel_rfl)
theorem ty31 : ty Tryz.prog 31 = some ⟨(.func #[26, 26] #[4] false), 1, 8, .nilFunc⟩ := ty_mk Tryz.underlying31 (by kernel_rfl)
theorem ty32 : ty Tryz.prog 32 = some ⟨(.func #[9] #[4] false), 1, 8, .nilFunc⟩ := ty_mk Tryz.underlying32 (by kernel_rfl)
theorem ty33 : ty Tryz.prog 33 = some ⟨(.slice 35), 1, 24, (.slice none 0 0)⟩ := ty_mk Tryz.underlying33 (by kernel_rfl)
theorem ty35 : ty Tryz.prog 35 = some ⟨(.struct #[{ name := "Kind", type := 3, offset := 0, embedded := false, tag := "", pkgPath := "", byteOffset := 0 }, { name := "Name", type := 9, offset := 1, embedded := false, tag := "", pkgPath := "", byteOffset := 8 }, { name := "N", type := 2, offset := 2, embedded := false, tag := "", pkgPath := "", byteOffset := 24 }, { name := "Kids", type := 33, offset := 3, embedded := false, tag := "", pkgPath := "", byteOffset := 32 }]), 4, 56, (.agg #[(.int .i64 0), (.string ⟨#[]⟩), (.int .i64 0), (.slice none 0 0)])⟩ := ty_mk Tryz.underlying35 (by kernel_rfl)
theorem ty36 : ty Tryz.prog 36 = some ⟨(.func #[35] #[9] false), 1, 8, .nilFunc⟩ := ty_mk Tryz.underlying36 (by kernel_rfl)
theorem ty37 : ty Tryz.prog 37 = some ⟨(.func #[35] #[4] false), 1, 8, .nilFunc⟩ := ty_mk Tryz.underlying37 (by kernel_rfl)
theorem ty39 : ty Tryz.prog 39 = some ⟨(.func #[26] #[9, 27] false), 1, 8, .nilFunc⟩ := ty_mk Tryz.underlying39 (by kernel_rfl)
theorem ty40 : ty Tryz.prog 40 = some ⟨(.func #[26] #[4] false), 1, 8, .nilFunc⟩ := ty_mk Tryz.underlying40 (by kernel_rfl)
theorem ty41 : ty Tryz.prog 41 = some ⟨(.func #[26, 9] #[4] false), 1, 8, .nilFunc⟩ := ty_mk Tryz.underlying41 (by kernel_rfl)
theorem ty42 : ty Tryz.prog 42 = some ⟨(.slice 9), 1, 24, (.slice none 0 0)⟩ := ty_mk Tryz.underlying42 (by kernel_rfl)
theorem ty43 : ty Tryz.prog 43 = some ⟨(.func #[9, 5] #[42] false), 1, 8, .nilFunc⟩ := ty_mk Tryz.underlying43 (by kernel_rfl)
theorem ty44 : ty Tryz.prog 44 = some ⟨(.slice 5), 1, 24, (.slice none 0 0)⟩ := ty_mk Tryz.underlying44 (by kernel_rfl)
theorem ty46 : ty Tryz.prog 46 = some ⟨(.func #[9] #[23, 3, 4] false), 1, 8, .nilFunc⟩ := ty_mk Tryz.underlying46 (by kernel_rfl)
theorem ty47 : ty Tryz.prog 47 = some ⟨(.slice 2), 1, 24, (.slice none 0 0)⟩ := ty_mk Tryz.underlying47 (by kernel_rfl)
theorem ty49 : ty Tryz.prog 49 = some ⟨(.struct #[{ name := "At", type := 3, offset := 0, embedded := false, tag := "", pkgPath := "", byteOffset := 0 }, { name := "Gen", type := 3, offset := 1, embedded := false, tag := "", pkgPath := "", byteOffset := 8 }]), 2, 16, (.agg #[(.int .i64 0), (.int .i64 0)])⟩ := ty_mk Tryz.underlying49 (by kernel_rfl)
theorem ty51 : ty Tryz.prog 51 = some ⟨(.struct #[{ name := "Kind", type := 3, offset := 0, embedded := false, tag := "", pkgPath := "", byteOffset := 0 }, { name := "N", type := 3, offset := 1, embedded := false, tag := "", pkgPath := "", byteOffset := 8 }, { name := "Name", type := 9, offset := 2, embedded := false, tag := "", pkgPath := "", byteOffset := 16 }, { name := "With", type := 47, offset := 3, embedded := false, tag := "", pkgPath := "", byteOffset := 32 }, { name := "Depth", type := 3, offset := 4, embedded := false, tag := "", pkgPath := "", byteOffset := 56 }, { name := "Fuel", type := 3, offset := 5, embedded := false, tag := "", pkgPath := "", byteOffset := 64 }, { name := "Point", type := 49, offset := 6, embedded := false, tag := "", pkgPath := "", byteOffset := 72 }]), 8, 88, (.agg #[(.int .i64 0), (.int .i64 0), (.string ⟨#[]⟩), (.slice none 0 0), (.int .i64 0), (.int .i64 0), (.int .i64 0), (.int .i64 0)])⟩ := ty_mk Tryz.underlying51 (by kernel_rfl)
theorem ty53 : ty Tryz.prog 53 = some ⟨(.func #[9] #[51, 4] false), 1, 8, .nilFunc⟩ := ty_mk Tryz.underlying53 (by kernel_rfl)
theorem ty55 : ty Tryz.prog 55 = some ⟨(.func #[42, 3] #[47, 4] false), 1, 8, .nilFunc⟩ := ty_mk Tryz.underlying55 (by kernel_rfl)
theorem ty56 : ty Tryz.prog 56 = some ⟨(.func #[9] #[9] false), 1, 8, .nilFunc⟩ := ty_mk Tryz.underlying56 (by kernel_rfl)
theorem ty58 : ty Tryz.prog 58 = some ⟨(.func #[51] #[9, 4] false), 1, 8, .nilFunc⟩ := ty_mk Tryz.underlying58 (by kernel_rfl)
theorem ty59 : ty Tryz.prog 59 = some ⟨(.func #[2] #[9] false), 1, 8, .nilFunc⟩ := ty_mk Tryz.underlying59 (by kernel_rfl)
theorem ty60 : ty Tryz.prog 60 = some ⟨(.func #[33] #[9] false), 1, 8, .nilFunc⟩ := ty_mk Tryz.underlying60 (by kernel_rfl)
theorem ty61 : ty Tryz.prog 61 = some ⟨(.func #[9, 47] #[9] true), 1, 8, .nilFunc⟩ := ty_mk Tryz.underlying61 (by kernel_rfl)
theorem ty62 : ty Tryz.prog 62 = some ⟨(.func #[9, 47] #[9] false), 1, 8, .nilFunc⟩ := ty_mk Tryz.underlying62 (by kernel_rfl)
theorem ty63 : ty Tryz.prog 63 = some ⟨(.func #[42] #[47, 4] false), 1, 8, .nilFunc⟩ := ty_mk Tryz.underlying63 (by kernel_rfl)
theorem ty64 : ty Tryz.prog 64 = some ⟨(.func #[9, 3] #[4] false), 1, 8, .nilFunc⟩ := ty_mk Tryz.underlying64 (by kernel_rfl)
theorem ty65 : ty Tryz.prog 65 = some ⟨(.func #[3] #[3] false), 1, 8, .nilFunc⟩ := ty_mk Tryz.underlying65 (by kernel_rfl)
theorem ty67 : ty Tryz.prog 67 = some ⟨(.func #[9] #[2, 4] false), 1, 8, .nilFunc⟩ := ty_mk Tryz.underlying67 (by kernel_rfl)
theorem ty68 : ty Tryz.prog 68 = some ⟨(.func #[26] #[9] false), 1, 8, .nilFunc⟩ := ty_mk Tryz.underlying68 (by kernel_rfl)
theorem ty69 : ty Tryz.prog 69 = some ⟨(.func #[72] #[9, 27] false), 1, 8, .nilFunc⟩ := ty_mk Tryz.underlying69 (by kernel_rfl)
theorem ty71 : ty Tryz.prog 71 = some ⟨(.struct #[{ name := "Kind", type := 3, offset := 0, embedded := false, tag := "", pkgPath := "", byteOffset := 0 }, { name := "Text", type := 9, offset := 1, embedded := false, tag := "", pkgPath := "", byteOffset := 8 }, { name := "N", type := 2, offset := 2, embedded := false, tag := "", pkgPath := "", byteOffset := 24 }, { name := "At", type := 3, offset := 3, embedded := false, tag := "", pkgPath := "", byteOffset := 32 }]), 4, 40, (.agg #[(.int .i64 0), (.string ⟨#[]⟩), (.int .i64 0), (.int .i64 0)])⟩ := ty_mk Tryz.underlying71 (by kernel_rfl)
theorem ty72 : ty Tryz.prog 72 = some ⟨(.slice 71), 1, 24, (.slice none 0 0)⟩ := ty_mk Tryz.underlying72 (by kernel_rfl)
theorem ty74 : ty Tryz.prog 74 = some ⟨(.pointer 76), 1, 8, (.pointer none)⟩ := ty_mk Tryz.underlying74 (by kernel_rfl)
theorem ty76 : ty Tryz.prog 76 = some ⟨(.struct #[{ name := "s", type := 9, offset := 0, embedded := false, tag := "", pkgPath := "midden/lex", byteOffset := 0 }, { name := "at", type := 3, offset := 1, embedded := false, tag := "", pkgPath := "midden/lex", byteOffset := 16 }]), 2, 24, (.agg #[(.string ⟨#[]⟩), (.int .i64 0)])⟩ := ty_mk Tryz.underlying76 (by kernel_rfl)
theorem ty77 : ty Tryz.prog 77 = some ⟨(.func #[] #[71, 9, 27] false), 1, 8, .nilFunc⟩ := ty_mk Tryz.underlying77 (by kernel_rfl)
theorem ty79 : ty Tryz.prog 79 = some ⟨(.func #[9] #[72, 3, 27] false), 1, 8, .nilFunc⟩ := ty_mk Tryz.underlying79 (by kernel_rfl)
theorem ty81 : ty Tryz.prog 81 = some ⟨(.func #[9, 3] #[71, 3, 27] false), 1, 8, .nilFunc⟩ := ty_mk Tryz.underlying81 (by kernel_rfl)
theorem ty82 : ty Tryz.prog 82 = some ⟨(.pointer 115), 1, 8, (.pointer none)⟩ := ty_mk Tryz.underlying82 (by kernel_rfl)
theorem ty84 : ty Tryz.prog 84 = some ⟨(.func #[9, 23, 3] #[82, 3, 27] false), 1, 8, .nilFunc⟩ := ty_mk Tryz.underlying84 (by kernel_rfl)
theorem ty85 : ty Tryz.prog 85 = some ⟨(.pointer 89), 1, 8, (.pointer none)⟩ := ty_mk Tryz.underlying85 (by kernel_rfl)
theorem ty86 : ty Tryz.prog 86 = some ⟨(.slice 3), 1, 24, (.slice none 0 0)⟩ := ty_mk Tryz.underlying86 (by kernel_rfl)
theorem ty87 : ty Tryz.prog 87 = some ⟨(.slice 49), 1, 24, (.slice none 0 0)⟩ := ty_mk Tryz.underlying87 (by kernel_rfl)
theorem ty89 : ty Tryz.prog 89 = some ⟨(.struct #[{ name := "h", type := 82, offset := 0, embedded := false, tag := "", pkgPath := "midden/script", byteOffset := 0 }, { name := "hands", type := 86, offset := 1, embedded := false, tag := "", pkgPath := "midden/script", byteOffset := 8 }, { name := "points", type := 87, offset := 2, embedded := false, tag := "", pkgPath := "midden/script", byteOffset := 32 }]), 3, 56, (.agg #[(.pointer none), (.slice none 0 0), (.slice none 0 0)])⟩ := ty_mk Tryz.underlying89 (by kernel_rfl)
theorem ty90 : ty Tryz.prog 90 = some ⟨(.func #[51] #[9] false), 1, 8, .nilFunc⟩ := ty_mk Tryz.underlying90 (by kernel_rfl)
theorem ty91 : ty Tryz.prog 91 = some ⟨(.func #[71] #[9, 4] false), 1, 8, .nilFunc⟩ := ty_mk Tryz.underlying91 (by kernel_rfl)
theorem ty92 : ty Tryz.prog 92 = some ⟨(.func #[3] #[5] false), 1, 8, .nilFunc⟩ := ty_mk Tryz.underlying92 (by kernel_rfl)
theorem ty93 : ty Tryz.prog 93 = some ⟨(.func #[5] #[4] false), 1, 8, .nilFunc⟩ := ty_mk Tryz.underlying93 (by kernel_rfl)
theorem ty94 : ty Tryz.prog 94 = some ⟨(.func #[3, 93] #[9] false), 1, 8, .nilFunc⟩ := ty_mk Tryz.underlying94 (by kernel_rfl)
theorem ty95 : ty Tryz.prog 95 = some ⟨(.func #[9, 3] #[3] false), 1, 8, .nilFunc⟩ := ty_mk Tryz.underlying95 (by kernel_rfl)
theorem ty96 : ty Tryz.prog 96 = some ⟨(.slice 141), 1, 24, (.slice none 0 0)⟩ := ty_mk Tryz.underlying96 (by kernel_rfl)
theorem ty97 : ty Tryz.prog 97 = some ⟨(.slice 152), 1, 24, (.slice none 0 0)⟩ := ty_mk Tryz.underlying97 (by kernel_rfl)
theorem ty99 : ty Tryz.prog 99 = some ⟨(.struct #[{ name := "Datas", type := 96, offset := 0, embedded := false, tag := "", pkgPath := "", byteOffset := 0 }, { name := "Binds", type := 97, offset := 1, embedded := false, tag := "", pkgPath := "", byteOffset := 24 }]), 2, 48, (.agg #[(.slice none 0 0), (.slice none 0 0)])⟩ := ty_mk Tryz.underlying99 (by kernel_rfl)
theorem ty101 : ty Tryz.prog 101 = some ⟨(.func #[9] #[99, 3, 27] false), 1, 8, .nilFunc⟩ := ty_mk Tryz.underlying101 (by kernel_rfl)
theorem ty102 : ty Tryz.prog 102 = some ⟨(.slice 143), 1, 24, (.slice none 0 0)⟩ := ty_mk Tryz.underlying102 (by kernel_rfl)
theorem ty103 : ty Tryz.prog 103 = some ⟨(.slice 117), 1, 24, (.slice none 0 0)⟩ := ty_mk Tryz.underlying103 (by kernel_rfl)
theorem ty104 : ty Tryz.prog 104 = some ⟨(.slice 175), 1, 24, (.slice none 0 0)⟩ := ty_mk Tryz.underlying104 (by kernel_rfl)
theorem ty105 : ty Tryz.prog 105 = some ⟨(.slice 212), 1, 24, (.slice none 0 0)⟩ := ty_mk Tryz.underlying105 (by kernel_rfl)
theorem ty107 : ty Tryz.prog 107 = some ⟨(.struct #[{ name := "Cons", type := 102, offset := 0, embedded := false, tag := "", pkgPath := "", byteOffset := 0 }, { name := "Globals", type := 103, offset := 1, embedded := false, tag := "", pkgPath := "", byteOffset := 24 }, { name := "Infos", type := 104, offset := 2, embedded := false, tag := "", pkgPath := "", byteOffset := 48 }, { name := "Insns", type := 105, offset := 3, embedded := false, tag := "", pkgPath := "", byteOffset := 72 }]), 4, 96, (.agg #[(.slice none 0 0), (.slice none 0 0), (.slice none 0 0), (.slice none 0 0)])⟩ := ty_mk Tryz.underlying107 (by kernel_rfl)
theorem ty109 : ty Tryz.prog 109 = some ⟨(.func #[99] #[107, 3, 27] false), 1, 8, .nilFunc⟩ := ty_mk Tryz.underlying109 (by kernel_rfl)
theorem ty110 : ty Tryz.prog 110 = some ⟨(.pointer 162), 1, 8, (.pointer none)⟩ := ty_mk Tryz.underlying110 (by kernel_rfl)
theorem ty112 : ty Tryz.prog 112 = some ⟨(.func #[107, 23, 3] #[110, 3, 27] false), 1, 8, .nilFunc⟩ := ty_mk Tryz.underlying112 (by kernel_rfl)
theorem ty113 : ty Tryz.prog 113 = some ⟨(.map 9 3), 1, 8, (.map none)⟩ := ty_mk Tryz.underlying113 (by kernel_rfl)
theorem ty115 : ty Tryz.prog 115 = some ⟨(.struct #[{ name := "m", type := 110, offset := 0, embedded := false, tag := "", pkgPath := "midden/host", byteOffset := 0 }, { name := "names", type := 113, offset := 1, embedded := false, tag := "", pkgPath := "midden/host", byteOffset := 8 }, { name := "gens", type := 3, offset := 2, embedded := false, tag := "", pkgPath := "midden/host", byteOffset := 16 }, { name := "dead", type := 4, offset := 3, embedded := false, tag := "", pkgPath := "midden/host", byteOffset := 24 }]), 4, 32, (.agg #[(.pointer none), (.map none), (.int .i64 0), (.bool false)])⟩ := ty_mk Tryz.underlying115 (by kernel_rfl)
theorem ty117 : ty Tryz.prog 117 = some ⟨(.struct #[{ name := "Name", type := 9, offset := 0, embedded := false, tag := "", pkgPath := "", byteOffset := 0 }, { name := "Info", type := 3, offset := 1, embedded := false, tag := "", pkgPath := "", byteOffset := 16 }]), 2, 24, (.agg #[(.string ⟨#[]⟩), (.int .i64 0)])⟩ := ty_mk Tryz.underlying117 (by kernel_rfl)
theorem ty119 : ty Tryz.prog 119 = some ⟨(.func #[9, 47] #[3, 27] false), 1, 8, .nilFunc⟩ := ty_mk Tryz.underlying119 (by kernel_rfl)
theorem ty120 : ty Tryz.prog 120 = some ⟨(.func #[9, 27] #[9] false), 1, 8, .nilFunc⟩ := ty_mk Tryz.underlying120 (by kernel_rfl)
theorem ty122 : ty Tryz.prog 122 = some ⟨(.struct #[{ name := "Kind", type := 3, offset := 0, embedded := false, tag := "", pkgPath := "", byteOffset := 0 }, { name := "Err", type := 27, offset := 1, embedded := false, tag := "", pkgPath := "", byteOffset := 8 }, { name := "Tree", type := 35, offset := 2, embedded := false, tag := "", pkgPath := "", byteOffset := 16 }]), 6, 72, (.agg #[(.int .i64 0), (.int .i64 0), (.int .i64 0), (.string ⟨#[]⟩), (.int .i64 0), (.slice none 0 0)])⟩ := ty_mk Tryz.underlying122 (by kernel_rfl)
theorem ty124 : ty Tryz.prog 124 = some ⟨(.func #[3, 3, 3, 87] #[122, 27] false), 1, 8, .nilFunc⟩ := ty_mk Tryz.underlying124 (by kernel_rfl)
theorem ty125 : ty Tryz.prog 125 = some ⟨(.func #[122] #[9] false), 1, 8, .nilFunc⟩ := ty_mk Tryz.underlying125 (by kernel_rfl)
theorem ty126 : ty Tryz.prog 126 = some ⟨(.func #[3] #[27] false), 1, 8, .nilFunc⟩ := ty_mk Tryz.underlying126 (by kernel_rfl)
theorem ty127 : ty Tryz.prog 127 = some ⟨(.func #[] #[47] false), 1, 8, .nilFunc⟩ := ty_mk Tryz.underlying127 (by kernel_rfl)
theorem ty128 : ty Tryz.prog 128 = some ⟨(.int .u64), 1, 8, (.int .u64 0)⟩ := ty_mk Tryz.underlying128 (by kernel_rfl)
theorem ty130 : ty Tryz.prog 130 = some ⟨(.struct #[{ name := "at", type := 3, offset := 0, embedded := false, tag := "", pkgPath := "midden/tree", byteOffset := 0 }, { name := "e", type := 27, offset := 1, embedded := false, tag := "", pkgPath := "midden/tree", byteOffset := 8 }]), 2, 16, (.agg #[(.int .i64 0), (.int .i64 0)])⟩ := ty_mk Tryz.underlying130 (by kernel_rfl)
theorem ty131 : ty Tryz.prog 131 = some ⟨(.pointer 133), 1, 8, (.pointer none)⟩ := ty_mk Tryz.underlying131 (by kernel_rfl)
theorem ty133 : ty Tryz.prog 133 = some ⟨(.struct #[{ name := "l", type := 72, offset := 0, embedded := false, tag := "", pkgPath := "midden/tree", byteOffset := 0 }, { name := "at", type := 3, offset := 1, embedded := false, tag := "", pkgPath := "midden/tree", byteOffset := 24 }, { name := "end", type := 3, offset := 2, embedded := false, tag := "", pkgPath := "midden/tree", byteOffset := 32 }, { name := "deep", type := 3, offset := 3, embedded := false, tag := "", pkgPath := "midden/tree", byteOffset := 40 }]), 4, 48, (.agg #[(.slice none 0 0), (.int .i64 0), (.int .i64 0), (.int .i64 0)])⟩ := ty_mk Tryz.underlying133 (by kernel_rfl)
theorem ty134 : ty Tryz.prog 134 = some ⟨(.func #[] #[99] false), 1, 8, .nilFunc⟩ := ty_mk Tryz.underlying134 (by kernel_rfl)
theorem ty135 : ty Tryz.prog 135 = some ⟨(.func #[99] #[3, 27] false), 1, 8, .nilFunc⟩ := ty_mk Tryz.underlying135 (by kernel_rfl)
theorem ty136 : ty Tryz.prog 136 = some ⟨(.pointer 139), 1, 8, (.pointer none)⟩ := ty_mk Tryz.underlying136 (by kernel_rfl)
theorem ty137 : ty Tryz.prog 137 = some ⟨(.slice 1), 1, 24, (.slice none 0 0)⟩ := ty_mk Tryz.underlying137 (by kernel_rfl)
theorem ty139 : ty Tryz.prog 139 = some ⟨(.struct #[{ name := "c", type := 107, offset := 0, embedded := false, tag := "", pkgPath := "midden/gen", byteOffset := 0 }, { name := "cons", type := 113, offset := 4, embedded := false, tag := "", pkgPath := "midden/gen", byteOffset := 96 }, { name := "tops", type := 113, offset := 5, embedded := false, tag := "", pkgPath := "midden/gen", byteOffset := 104 }, { name := "queue", type := 137, offset := 6, embedded := false, tag := "", pkgPath := "midden/gen", byteOffset := 112 }, { name := "big", type := 4, offset := 7, embedded := false, tag := "", pkgPath := "midden/gen", byteOffset := 136 }]), 8, 144, (.agg #[(.slice none 0 0), (.slice none 0 0), (.slice none 0 0), (.slice none 0 0), (.map none), (.map none), (.slice none 0 0), (.bool false)])⟩ := ty_mk Tryz.underlying139 (by kernel_rfl)
theorem ty141 : ty Tryz.prog 141 = some ⟨(.struct #[{ name := "Name", type := 9, offset := 0, embedded := false, tag := "", pkgPath := "", byteOffset := 0 }, { name := "Arity", type := 3, offset := 1, embedded := false, tag := "", pkgPath := "", byteOffset := 16 }, { name := "At", type := 3, offset := 2, embedded := false, tag := "", pkgPath := "", byteOffset := 24 }]), 3, 32, (.agg #[(.string ⟨#[]⟩), (.int .i64 0), (.int .i64 0)])⟩ := ty_mk Tryz.underlying141 (by kernel_rfl)
theorem ty143 : ty Tryz.prog 143 = some ⟨(.struct #[{ name := "Name", type := 9, offset := 0, embedded := false, tag := "", pkgPath := "", byteOffset := 0 }, { name := "Arity", type := 3, offset := 1, embedded := false, tag := "", pkgPath := "", byteOffset := 16 }]), 2, 24, (.agg #[(.string ⟨#[]⟩), (.int .i64 0)])⟩ := ty_mk Tryz.underlying143 (by kernel_rfl)
theorem ty144 : ty Tryz.prog 144 = some ⟨(.slice 312), 1, 24, (.slice none 0 0)⟩ := ty_mk Tryz.underlying144 (by kernel_rfl)
theorem ty145 : ty Tryz.prog 145 = some ⟨(.slice 148), 1, 24, (.slice none 0 0)⟩ := ty_mk Tryz.underlying145 (by kernel_rfl)
theorem ty146 : ty Tryz.prog 146 = some ⟨(.slice 327), 1, 24, (.slice none 0 0)⟩ := ty_mk Tryz.underlying146 (by kernel_rfl)
theorem ty148 : ty Tryz.prog 148 = some ⟨(.struct #[{ name := "Kind", type := 3, offset := 0, embedded := false, tag := "", pkgPath := "", byteOffset := 0 }, { name := "At", type := 3, offset := 1, embedded := false, tag := "", pkgPath := "", byteOffset := 8 }, { name := "Name", type := 9, offset := 2, embedded := false, tag := "", pkgPath := "", byteOffset := 16 }, { name := "N", type := 2, offset := 3, embedded := false, tag := "", pkgPath := "", byteOffset := 32 }, { name := "Atoms", type := 144, offset := 4, embedded := false, tag := "", pkgPath := "", byteOffset := 40 }, { name := "Binds", type := 97, offset := 5, embedded := false, tag := "", pkgPath := "", byteOffset := 64 }, { name := "Kids", type := 145, offset := 6, embedded := false, tag := "", pkgPath := "", byteOffset := 88 }, { name := "Alts", type := 146, offset := 7, embedded := false, tag := "", pkgPath := "", byteOffset := 112 }]), 8, 136, (.agg #[(.int .i64 0), (.int .i64 0), (.string ⟨#[]⟩), (.int .i64 0), (.slice none 0 0), (.slice none 0 0), (.slice none 0 0), (.slice none 0 0)])⟩ := ty_mk Tryz.underlying148 (by kernel_rfl)
theorem ty150 : ty Tryz.prog 150 = some ⟨(.struct #[{ name := "Args", type := 42, offset := 0, embedded := false, tag := "", pkgPath := "", byteOffset := 0 }, { name := "Body", type := 148, offset := 1, embedded := false, tag := "", pkgPath := "", byteOffset := 24 }]), 9, 160, (.agg #[(.slice none 0 0), (.int .i64 0), (.int .i64 0), (.string ⟨#[]⟩), (.int .i64 0), (.slice none 0 0), (.slice none 0 0), (.slice none 0 0), (.slice none 0 0)])⟩ := ty_mk Tryz.underlying150 (by kernel_rfl)
theorem ty152 : ty Tryz.prog 152 = some ⟨(.struct #[{ name := "Name", type := 9, offset := 0, embedded := false, tag := "", pkgPath := "", byteOffset := 0 }, { name := "At", type := 3, offset := 1, embedded := false, tag := "", pkgPath := "", byteOffset := 16 }, { name := "Form", type := 150, offset := 2, embedded := false, tag := "", pkgPath := "", byteOffset := 24 }]), 11, 184, (.agg #[(.string ⟨#[]⟩), (.int .i64 0), (.slice none 0 0), (.int .i64 0), (.int .i64 0), (.string ⟨#[]⟩), (.int .i64 0), (.slice none 0 0), (.slice none 0 0), (.slice none 0 0), (.slice none 0 0)])⟩ := ty_mk Tryz.underlying152 (by kernel_rfl)
theorem ty153 : ty Tryz.prog 153 = some ⟨(.func #[150, 42] #[3] false), 1, 8, .nilFunc⟩ := ty_mk Tryz.underlying153 (by kernel_rfl)
theorem ty154 : ty Tryz.prog 154 = some ⟨(.func #[107] #[3, 27] false), 1, 8, .nilFunc⟩ := ty_mk Tryz.underlying154 (by kernel_rfl)
theorem ty155 : ty Tryz.prog 155 = some ⟨(.pointer 223), 1, 8, (.pointer none)⟩ := ty_mk Tryz.underlying155 (by kernel_rfl)
theorem ty157 : ty Tryz.prog 157 = some ⟨(.func #[23] #[155, 27] false), 1, 8, .nilFunc⟩ := ty_mk Tryz.underlying157 (by kernel_rfl)
theorem ty158 : ty Tryz.prog 158 = some ⟨(.pointer 234), 1, 8, (.pointer none)⟩ := ty_mk Tryz.underlying158 (by kernel_rfl)
theorem ty159 : ty Tryz.prog 159 = some ⟨(.pointer 237), 1, 8, (.pointer none)⟩ := ty_mk Tryz.underlying159 (by kernel_rfl)
theorem ty160 : ty Tryz.prog 160 = some ⟨(.slice 341), 1, 24, (.slice none 0 0)⟩ := ty_mk Tryz.underlying160 (by kernel_rfl)
theorem ty162 : ty Tryz.prog 162 = some ⟨(.struct #[{ name := "c", type := 107, offset := 0, embedded := false, tag := "", pkgPath := "midden/machine", byteOffset := 0 }, { name := "h", type := 155, offset := 4, embedded := false, tag := "", pkgPath := "midden/machine", byteOffset := 96 }, { name := "s", type := 158, offset := 5, embedded := false, tag := "", pkgPath := "midden/machine", byteOffset := 104 }, { name := "t", type := 159, offset := 6, embedded := false, tag := "", pkgPath := "midden/machine", byteOffset := 112 }, { name := "globals", type := 86, offset := 7, embedded := false, tag := "", pkgPath := "midden/machine", byteOffset := 120 }, { name := "out", type := 47, offset := 8, embedded := false, tag := "", pkgPath := "midden/machine", byteOffset := 144 }, { name := "steps", type := 3, offset := 9, embedded := false, tag := "", pkgPath := "midden/machine", byteOffset := 168 }, { name := "dead", type := 4, offset := 10, embedded := false, tag := "", pkgPath := "midden/machine", byteOffset := 176 }, { name := "young", type := 3, offset := 11, embedded := false, tag := "", pkgPath := "midden/machine", byteOffset := 184 }, { name := "all", type := 3, offset := 12, embedded := false, tag := "", pkgPath := "midden/machine", byteOffset := 192 }, { name := "phase", type := 3, offset := 13, embedded := false, tag := "", pkgPath := "midden/machine", byteOffset := 200 }, { name := "pc", type := 3, offset := 14, embedded := false, tag := "", pkgPath := "midden/machine", byteOffset := 208 }, { name := "locals", type := 86, offset := 15, embedded := false, tag := "", pkgPath := "midden/machine", byteOffset := 216 }, { name := "at", type := 3, offset := 16, embedded := false, tag := "", pkgPath := "midden/machine", byteOffset := 240 }, { name := "args", type := 86, offset := 17, embedded := false, tag := "", pkgPath := "midden/machine", byteOffset := 248 }, { name := "depth", type := 3, offset := 18, embedded := false, tag := "", pkgPath := "midden/machine", byteOffset := 272 }, { name := "shown", type := 3, offset := 19, embedded := false, tag := "", pkgPath := "midden/machine", byteOffset := 280 }, { name := "opens", type := 160, offset := 20, embedded := false, tag := "", pkgPath := "midden/machine", byteOffset := 288 }, { name := "end", type := 122, offset := 21, embedded := false, tag := "", pkgPath := "midden/machine", byteOffset := 312 }, { name := "ended", type := 4, offset := 27, embedded := false, tag := "", pkgPath := "midden/machine", byteOffset := 384 }]), 28, 392, (.agg #[(.slice none 0 0), (.slice none 0 0), (.slice none 0 0), (.slice none 0 0), (.pointer none), (.pointer none), (.pointer none), (.slice none 0 0), (.slice none 0 0), (.int .i64 0), (.bool false), (.int .i64 0), (.int .i64 0), (.int .i64 0), (.int .i64 0), (.slice none 0 0), (.int .i64 0), (.slice none 0 0), (.int .i64 0), (.int .i64 0), (.slice none 0 0), (.int .i64 0), (.int .i64 0), (.int .i64 0), (.string ⟨#[]⟩), (.int .i64 0), (.slice none 0 0), (.bool false)])⟩ := ty_mk Tryz.underlying162 (by kernel_rfl)
theorem ty163 : ty Tryz.prog 163 = some ⟨(.pointer 231), 1, 8, (.pointer none)⟩ := ty_mk Tryz.underlying163 (by kernel_rfl)
theorem ty165 : ty Tryz.prog 165 = some ⟨(.func #[3] #[163, 27] false), 1, 8, .nilFunc⟩ := ty_mk Tryz.underlying165 (by kernel_rfl)
theorem ty167 : ty Tryz.prog 167 = some ⟨(.func #[163, 3, 3] #[158, 27] false), 1, 8, .nilFunc⟩ := ty_mk Tryz.underlying167 (by kernel_rfl)
theorem ty169 : ty Tryz.prog 169 = some ⟨(.func #[3] #[159, 27] false), 1, 8, .nilFunc⟩ := ty_mk Tryz.underlying169 (by kernel_rfl)
theorem ty171 : ty Tryz.prog 171 = some ⟨(.struct #[{ name := "Kind", type := 3, offset := 0, embedded := false, tag := "", pkgPath := "", byteOffset := 0 }, { name := "Info", type := 3, offset := 1, embedded := false, tag := "", pkgPath := "", byteOffset := 8 }, { name := "Ptrs", type := 3, offset := 2, embedded := false, tag := "", pkgPath := "", byteOffset := 16 }, { name := "Nons", type := 3, offset := 3, embedded := false, tag := "", pkgPath := "", byteOffset := 24 }]), 4, 32, (.agg #[(.int .i64 0), (.int .i64 0), (.int .i64 0), (.int .i64 0)])⟩ := ty_mk Tryz.underlying171 (by kernel_rfl)
theorem ty173 : ty Tryz.prog 173 = some ⟨(.func #[177] #[171, 27] false), 1, 8, .nilFunc⟩ := ty_mk Tryz.underlying173 (by kernel_rfl)
theorem ty175 : ty Tryz.prog 175 = some ⟨(.struct #[{ name := "Kind", type := 3, offset := 0, embedded := false, tag := "", pkgPath := "", byteOffset := 0 }, { name := "Arity", type := 3, offset := 1, embedded := false, tag := "", pkgPath := "", byteOffset := 8 }, { name := "Free", type := 3, offset := 2, embedded := false, tag := "", pkgPath := "", byteOffset := 16 }, { name := "To", type := 3, offset := 3, embedded := false, tag := "", pkgPath := "", byteOffset := 24 }]), 4, 32, (.agg #[(.int .i64 0), (.int .i64 0), (.int .i64 0), (.int .i64 0)])⟩ := ty_mk Tryz.underlying175 (by kernel_rfl)
theorem ty177 : ty Tryz.prog 177 = some ⟨(.struct #[{ name := "Kind", type := 3, offset := 0, embedded := false, tag := "", pkgPath := "", byteOffset := 0 }, { name := "Info", type := 3, offset := 1, embedded := false, tag := "", pkgPath := "", byteOffset := 8 }, { name := "N", type := 2, offset := 2, embedded := false, tag := "", pkgPath := "", byteOffset := 16 }, { name := "From", type := 86, offset := 3, embedded := false, tag := "", pkgPath := "", byteOffset := 24 }]), 4, 48, (.agg #[(.int .i64 0), (.int .i64 0), (.int .i64 0), (.slice none 0 0)])⟩ := ty_mk Tryz.underlying177 (by kernel_rfl)
theorem ty178 : ty Tryz.prog 178 = some ⟨(.func #[171, 86, 179] #[3, 27] false), 1, 8, .nilFunc⟩ := ty_mk Tryz.underlying178 (by kernel_rfl)
theorem ty179 : ty Tryz.prog 179 = some ⟨(.slice 128), 1, 24, (.slice none 0 0)⟩ := ty_mk Tryz.underlying179 (by kernel_rfl)
theorem ty180 : ty Tryz.prog 180 = some ⟨(.func #[] #[27] false), 1, 8, .nilFunc⟩ := ty_mk Tryz.underlying180 (by kernel_rfl)
theorem ty182 : ty Tryz.prog 182 = some ⟨(.func #[3, 47] #[3, 27] false), 1, 8, .nilFunc⟩ := ty_mk Tryz.underlying182 (by kernel_rfl)
theorem ty183 : ty Tryz.prog 183 = some ⟨(.func #[27] #[27] false), 1, 8, .nilFunc⟩ := ty_mk Tryz.underlying183 (by kernel_rfl)
theorem ty184 : ty Tryz.prog 184 = some ⟨(.func #[3, 3] #[27] false), 1, 8, .nilFunc⟩ := ty_mk Tryz.underlying184 (by kernel_rfl)
theorem ty185 : ty Tryz.prog 185 = some ⟨(.func #[3] #[4] false), 1, 8, .nilFunc⟩ := ty_mk Tryz.underlying185 (by kernel_rfl)
theorem ty187 : ty Tryz.prog 187 = some ⟨(.func #[] #[4, 27] false), 1, 8, .nilFunc⟩ := ty_mk Tryz.underlying187 (by kernel_rfl)
theorem ty189 : ty Tryz.prog 189 = some ⟨(.func #[] #[122, 4] false), 1, 8, .nilFunc⟩ := ty_mk Tryz.underlying189 (by kernel_rfl)
theorem ty190 : ty Tryz.prog 190 = some ⟨(.func #[3] #[122, 27] false), 1, 8, .nilFunc⟩ := ty_mk Tryz.underlying190 (by kernel_rfl)
theorem ty191 : ty Tryz.prog 191 = some ⟨(.func #[3] #[71] false), 1, 8, .nilFunc⟩ := ty_mk Tryz.underlying191 (by kernel_rfl)
theorem ty192 : ty Tryz.prog 192 = some ⟨(.func #[9] #[] false), 1, 8, .nilFunc⟩ := ty_mk Tryz.underlying192 (by kernel_rfl)
theorem ty193 : ty Tryz.prog 193 = some ⟨(.func #[] #[152] false), 1, 8, .nilFunc⟩ := ty_mk Tryz.underlying193 (by kernel_rfl)
theorem ty194 : ty Tryz.prog 194 = some ⟨(.pointer 197), 1, 8, (.pointer none)⟩ := ty_mk Tryz.underlying194 (by kernel_rfl)
theorem ty195 : ty Tryz.prog 195 = some ⟨(.pointer 205), 1, 8, (.pointer none)⟩ := ty_mk Tryz.underlying195 (by kernel_rfl)
theorem ty197 : ty Tryz.prog 197 = some ⟨(.struct #[{ name := "cons", type := 113, offset := 0, embedded := false, tag := "", pkgPath := "midden/scope", byteOffset := 0 }, { name := "bad", type := 195, offset := 1, embedded := false, tag := "", pkgPath := "midden/scope", byteOffset := 8 }]), 2, 16, (.agg #[(.map none), (.pointer none)])⟩ := ty_mk Tryz.underlying197 (by kernel_rfl)
theorem ty198 : ty Tryz.prog 198 = some ⟨(.pointer 201), 1, 8, (.pointer none)⟩ := ty_mk Tryz.underlying198 (by kernel_rfl)
theorem ty199 : ty Tryz.prog 199 = some ⟨(.func #[42] #[198] true), 1, 8, .nilFunc⟩ := ty_mk Tryz.underlying199 (by kernel_rfl)
theorem ty201 : ty Tryz.prog 201 = some ⟨(.struct #[{ name := "own", type := 113, offset := 0, embedded := false, tag := "", pkgPath := "midden/scope", byteOffset := 0 }, { name := "out", type := 198, offset := 1, embedded := false, tag := "", pkgPath := "midden/scope", byteOffset := 8 }]), 2, 16, (.agg #[(.map none), (.pointer none)])⟩ := ty_mk Tryz.underlying201 (by kernel_rfl)
theorem ty202 : ty Tryz.prog 202 = some ⟨(.func #[152, 198] #[] false), 1, 8, .nilFunc⟩ := ty_mk Tryz.underlying202 (by kernel_rfl)
theorem ty203 : ty Tryz.prog 203 = some ⟨(.func #[3, 27] #[] false), 1, 8, .nilFunc⟩ := ty_mk Tryz.underlying203 (by kernel_rfl)
theorem ty205 : ty Tryz.prog 205 = some ⟨(.struct #[{ name := "at", type := 3, offset := 0, embedded := false, tag := "", pkgPath := "midden/scope", byteOffset := 0 }, { name := "e", type := 27, offset := 1, embedded := false, tag := "", pkgPath := "midden/scope", byteOffset := 8 }]), 2, 16, (.agg #[(.int .i64 0), (.int .i64 0)])⟩ := ty_mk Tryz.underlying205 (by kernel_rfl)
theorem ty206 : ty Tryz.prog 206 = some ⟨(.map 9 3), 1, 8, (.map none)⟩ := ty_mk Tryz.underlying206 (by kernel_rfl)
theorem ty207 : ty Tryz.prog 207 = some ⟨(.func #[148, 206, 3] #[] false), 1, 8, .nilFunc⟩ := ty_mk Tryz.underlying207 (by kernel_rfl)
theorem ty208 : ty Tryz.prog 208 = some ⟨(.pointer 214), 1, 8, (.pointer none)⟩ := ty_mk Tryz.underlying208 (by kernel_rfl)
theorem ty209 : ty Tryz.prog 209 = some ⟨(.slice 177), 1, 24, (.slice none 0 0)⟩ := ty_mk Tryz.underlying209 (by kernel_rfl)
theorem ty210 : ty Tryz.prog 210 = some ⟨(.slice 329), 1, 24, (.slice none 0 0)⟩ := ty_mk Tryz.underlying210 (by kernel_rfl)
theorem ty212 : ty Tryz.prog 212 = some ⟨(.struct #[{ name := "Op", type := 3, offset := 0, embedded := false, tag := "", pkgPath := "", byteOffset := 0 }, { name := "A", type := 3, offset := 1, embedded := false, tag := "", pkgPath := "", byteOffset := 8 }, { name := "B", type := 3, offset := 2, embedded := false, tag := "", pkgPath := "", byteOffset := 16 }, { name := "List", type := 86, offset := 3, embedded := false, tag := "", pkgPath := "", byteOffset := 24 }, { name := "Keep", type := 86, offset := 4, embedded := false, tag := "", pkgPath := "", byteOffset := 48 }, { name := "Makes", type := 209, offset := 5, embedded := false, tag := "", pkgPath := "", byteOffset := 72 }, { name := "Arms", type := 210, offset := 6, embedded := false, tag := "", pkgPath := "", byteOffset := 96 }]), 7, 120, (.agg #[(.int .i64 0), (.int .i64 0), (.int .i64 0), (.slice none 0 0), (.slice none 0 0), (.slice none 0 0), (.slice none 0 0)])⟩ := ty_mk Tryz.underlying212 (by kernel_rfl)
theorem ty214 : ty Tryz.prog 214 = some ⟨(.struct #[{ name := "c", type := 107, offset := 0, embedded := false, tag := "", pkgPath := "midden/code", byteOffset := 0 }, { name := "in", type := 212, offset := 4, embedded := false, tag := "", pkgPath := "midden/code", byteOffset := 96 }, { name := "at", type := 3, offset := 11, embedded := false, tag := "", pkgPath := "midden/code", byteOffset := 216 }]), 12, 224, (.agg #[(.slice none 0 0), (.slice none 0 0), (.slice none 0 0), (.slice none 0 0), (.int .i64 0), (.int .i64 0), (.int .i64 0), (.slice none 0 0), (.slice none 0 0), (.slice none 0 0), (.slice none 0 0), (.int .i64 0)])⟩ := ty_mk Tryz.underlying214 (by kernel_rfl)
theorem ty215 : ty Tryz.prog 215 = some ⟨(.func #[175] #[27] false), 1, 8, .nilFunc⟩ := ty_mk Tryz.underlying215 (by kernel_rfl)
theorem ty216 : ty Tryz.prog 216 = some ⟨(.func #[3, 3, 3] #[4] false), 1, 8, .nilFunc⟩ := ty_mk Tryz.underlying216 (by kernel_rfl)
theorem ty217 : ty Tryz.prog 217 = some ⟨(.map 3 244), 1, 8, (.map none)⟩ := ty_mk Tryz.underlying217 (by kernel_rfl)
theorem ty218 : ty Tryz.prog 218 = some ⟨(.pointer 265), 1, 8, (.pointer none)⟩ := ty_mk Tryz.underlying218 (by kernel_rfl)
theorem ty219 : ty Tryz.prog 219 = some ⟨(.slice 221), 1, 24, (.slice none 0 0)⟩ := ty_mk Tryz.underlying219 (by kernel_rfl)
theorem ty220 : ty Tryz.prog 220 = some ⟨(.pointer 268), 1, 8, (.pointer none)⟩ := ty_mk Tryz.underlying220 (by kernel_rfl)
theorem ty221 : ty Tryz.prog 221 = some ⟨(.slice 273), 1, 24, (.slice none 0 0)⟩ := ty_mk Tryz.underlying221 (by kernel_rfl)
theorem ty223 : ty Tryz.prog 223 = some ⟨(.struct #[{ name := "c", type := 23, offset := 0, embedded := false, tag := "", pkgPath := "midden/heap", byteOffset := 0 }, { name := "p", type := 218, offset := 5, embedded := false, tag := "", pkgPath := "midden/heap", byteOffset := 40 }, { name := "a", type := 163, offset := 6, embedded := false, tag := "", pkgPath := "midden/heap", byteOffset := 48 }, { name := "spaces", type := 219, offset := 7, embedded := false, tag := "", pkgPath := "midden/heap", byteOffset := 56 }, { name := "at", type := 217, offset := 8, embedded := false, tag := "", pkgPath := "midden/heap", byteOffset := 80 }, { name := "lists", type := 220, offset := 9, embedded := false, tag := "", pkgPath := "midden/heap", byteOffset := 88 }, { name := "dead", type := 4, offset := 10, embedded := false, tag := "", pkgPath := "midden/heap", byteOffset := 96 }, { name := "work", type := 4, offset := 11, embedded := false, tag := "", pkgPath := "midden/heap", byteOffset := 97 }, { name := "aside", type := 217, offset := 12, embedded := false, tag := "", pkgPath := "midden/heap", byteOffset := 104 }, { name := "away", type := 221, offset := 13, embedded := false, tag := "", pkgPath := "midden/heap", byteOffset := 112 }, { name := "fresh", type := 86, offset := 14, embedded := false, tag := "", pkgPath := "midden/heap", byteOffset := 136 }, { name := "told", type := 3, offset := 15, embedded := false, tag := "", pkgPath := "midden/heap", byteOffset := 160 }]), 16, 168, (.agg #[(.int .i64 0), (.int .i64 0), (.int .i64 0), (.int .i64 0), (.int .i64 0), (.pointer none), (.pointer none), (.slice none 0 0), (.map none), (.pointer none), (.bool false), (.bool false), (.map none), (.slice none 0 0), (.slice none 0 0), (.int .i64 0)])⟩ := ty_mk Tryz.underlying223 (by kernel_rfl)
theorem ty225 : ty Tryz.prog 225 = some ⟨(.func #[3] #[218, 27] false), 1, 8, .nilFunc⟩ := ty_mk Tryz.underlying225 (by kernel_rfl)
theorem ty227 : ty Tryz.prog 227 = some ⟨(.func #[3] #[220, 27] false), 1, 8, .nilFunc⟩ := ty_mk Tryz.underlying227 (by kernel_rfl)
theorem ty228 : ty Tryz.prog 228 = some ⟨(.func #[3] #[3, 27] false), 1, 8, .nilFunc⟩ := ty_mk Tryz.underlying228 (by kernel_rfl)
theorem ty229 : ty Tryz.prog 229 = some ⟨(.func #[3] #[] false), 1, 8, .nilFunc⟩ := ty_mk Tryz.underlying229 (by kernel_rfl)
theorem ty231 : ty Tryz.prog 231 = some ⟨(.struct #[{ name := "w", type := 179, offset := 0, embedded := false, tag := "", pkgPath := "midden/arena", byteOffset := 0 }]), 1, 24, (.agg #[(.slice none 0 0)])⟩ := ty_mk Tryz.underlying231 (by kernel_rfl)
theorem ty232 : ty Tryz.prog 232 = some ⟨(.func #[] #[3] false), 1, 8, .nilFunc⟩ := ty_mk Tryz.underlying232 (by kernel_rfl)
theorem ty234 : ty Tryz.prog 234 = some ⟨(.struct #[{ name := "a", type := 163, offset := 0, embedded := false, tag := "", pkgPath := "midden/stack", byteOffset := 0 }, { name := "from", type := 3, offset := 1, embedded := false, tag := "", pkgPath := "midden/stack", byteOffset := 8 }, { name := "words", type := 3, offset := 2, embedded := false, tag := "", pkgPath := "midden/stack", byteOffset := 16 }, { name := "used", type := 3, offset := 3, embedded := false, tag := "", pkgPath := "midden/stack", byteOffset := 24 }, { name := "many", type := 3, offset := 4, embedded := false, tag := "", pkgPath := "midden/stack", byteOffset := 32 }]), 5, 40, (.agg #[(.pointer none), (.int .i64 0), (.int .i64 0), (.int .i64 0), (.int .i64 0)])⟩ := ty_mk Tryz.underlying234 (by kernel_rfl)
theorem ty235 : ty Tryz.prog 235 = some ⟨(.slice 239), 1, 24, (.slice none 0 0)⟩ := ty_mk Tryz.underlying235 (by kernel_rfl)
theorem ty237 : ty Tryz.prog 237 = some ⟨(.struct #[{ name := "l", type := 235, offset := 0, embedded := false, tag := "", pkgPath := "midden/stable", byteOffset := 0 }]), 1, 24, (.agg #[(.slice none 0 0)])⟩ := ty_mk Tryz.underlying237 (by kernel_rfl)
theorem ty239 : ty Tryz.prog 239 = some ⟨(.struct #[{ name := "at", type := 3, offset := 0, embedded := false, tag := "", pkgPath := "midden/stable", byteOffset := 0 }, { name := "turn", type := 3, offset := 1, embedded := false, tag := "", pkgPath := "midden/stable", byteOffset := 8 }]), 2, 16, (.agg #[(.int .i64 0), (.int .i64 0)])⟩ := ty_mk Tryz.underlying239 (by kernel_rfl)
theorem ty240 : ty Tryz.prog 240 = some ⟨(.func #[4] #[27] false), 1, 8, .nilFunc⟩ := ty_mk Tryz.underlying240 (by kernel_rfl)
theorem ty241 : ty Tryz.prog 241 = some ⟨(.func #[171] #[27] false), 1, 8, .nilFunc⟩ := ty_mk Tryz.underlying241 (by kernel_rfl)
theorem ty242 : ty Tryz.prog 242 = some ⟨(.func #[171, 86, 179, 244] #[3, 27] false), 1, 8, .nilFunc⟩ := ty_mk Tryz.underlying242 (by kernel_rfl)
theorem ty244 : ty Tryz.prog 244 = some ⟨(.struct #[{ name := "gen", type := 3, offset := 0, embedded := false, tag := "", pkgPath := "midden/heap", byteOffset := 0 }, { name := "step", type := 3, offset := 1, embedded := false, tag := "", pkgPath := "midden/heap", byteOffset := 8 }]), 2, 16, (.agg #[(.int .i64 0), (.int .i64 0)])⟩ := ty_mk Tryz.underlying244 (by kernel_rfl)
theorem ty245 : ty Tryz.prog 245 = some ⟨(.func #[30] #[4] false), 1, 8, .nilFunc⟩ := ty_mk Tryz.underlying245 (by kernel_rfl)
theorem ty246 : ty Tryz.prog 246 = some ⟨(.func #[171, 86, 179] #[3, 4] true), 1, 8, .nilFunc⟩ := ty_mk Tryz.underlying246 (by kernel_rfl)
theorem ty248 : ty Tryz.prog 248 = some ⟨(.func #[3, 3] #[35, 4] false), 1, 8, .nilFunc⟩ := ty_mk Tryz.underlying248 (by kernel_rfl)
theorem ty249 : ty Tryz.prog 249 = some ⟨(.func #[] #[23] false), 1, 8, .nilFunc⟩ := ty_mk Tryz.underlying249 (by kernel_rfl)
theorem ty250 : ty Tryz.prog 250 = some ⟨(.func #[212] #[27] false), 1, 8, .nilFunc⟩ := ty_mk Tryz.underlying250 (by kernel_rfl)
theorem ty251 : ty Tryz.prog 251 = some ⟨(.func #[27] #[] false), 1, 8, .nilFunc⟩ := ty_mk Tryz.underlying251 (by kernel_rfl)
theorem ty252 : ty Tryz.prog 252 = some ⟨(.func #[] #[71] false), 1, 8, .nilFunc⟩ := ty_mk Tryz.underlying252 (by kernel_rfl)
theorem ty253 : ty Tryz.prog 253 = some ⟨(.func #[] #[150] false), 1, 8, .nilFunc⟩ := ty_mk Tryz.underlying253 (by kernel_rfl)
theorem ty254 : ty Tryz.prog 254 = some ⟨(.func #[42] #[4] false), 1, 8, .nilFunc⟩ := ty_mk Tryz.underlying254 (by kernel_rfl)
theorem ty255 : ty Tryz.prog 255 = some ⟨(.func #[3, 256] #[3] false), 1, 8, .nilFunc⟩ := ty_mk Tryz.underlying255 (by kernel_rfl)
theorem ty256 : ty Tryz.prog 256 = some ⟨(.func #[3, 3] #[4] false), 1, 8, .nilFunc⟩ := ty_mk Tryz.underlying256 (by kernel_rfl)
theorem ty257 : ty Tryz.prog 257 = some ⟨(.func #[148, 198] #[] false), 1, 8, .nilFunc⟩ := ty_mk Tryz.underlying257 (by kernel_rfl)
theorem ty258 : ty Tryz.prog 258 = some ⟨(.func #[212] #[3] false), 1, 8, .nilFunc⟩ := ty_mk Tryz.underlying258 (by kernel_rfl)
theorem ty259 : ty Tryz.prog 259 = some ⟨(.func #[144] #[209] false), 1, 8, .nilFunc⟩ := ty_mk Tryz.underlying259 (by kernel_rfl)
theorem ty260 : ty Tryz.prog 260 = some ⟨(.func #[144, 206, 3] #[86] false), 1, 8, .nilFunc⟩ := ty_mk Tryz.underlying260 (by kernel_rfl)
theorem ty261 : ty Tryz.prog 261 = some ⟨(.func #[9] #[3] false), 1, 8, .nilFunc⟩ := ty_mk Tryz.underlying261 (by kernel_rfl)
theorem ty262 : ty Tryz.prog 262 = some ⟨(.func #[9, 206] #[3] false), 1, 8, .nilFunc⟩ := ty_mk Tryz.underlying262 (by kernel_rfl)
theorem ty263 : ty Tryz.prog 263 = some ⟨(.func #[330] #[27] true), 1, 8, .nilFunc⟩ := ty_mk Tryz.underlying263 (by kernel_rfl)
theorem ty265 : ty Tryz.prog 265 = some ⟨(.struct #[{ name := "first", type := 86, offset := 0, embedded := false, tag := "", pkgPath := "midden/pool", byteOffset := 0 }, { name := "many", type := 86, offset := 1, embedded := false, tag := "", pkgPath := "midden/pool", byteOffset := 24 }]), 2, 48, (.agg #[(.slice none 0 0), (.slice none 0 0)])⟩ := ty_mk Tryz.underlying265 (by kernel_rfl)
theorem ty266 : ty Tryz.prog 266 = some ⟨(.slice 269), 1, 24, (.slice none 0 0)⟩ := ty_mk Tryz.underlying266 (by kernel_rfl)
theorem ty268 : ty Tryz.prog 268 = some ⟨(.struct #[{ name := "of", type := 266, offset := 0, embedded := false, tag := "", pkgPath := "midden/remember", byteOffset := 0 }]), 1, 24, (.agg #[(.slice none 0 0)])⟩ := ty_mk Tryz.underlying268 (by kernel_rfl)
theorem ty269 : ty Tryz.prog 269 = some ⟨(.map 3 3), 1, 8, (.map none)⟩ := ty_mk Tryz.underlying269 (by kernel_rfl)
theorem ty270 : ty Tryz.prog 270 = some ⟨(.func #[256] #[] false), 1, 8, .nilFunc⟩ := ty_mk Tryz.underlying270 (by kernel_rfl)
theorem ty271 : ty Tryz.prog 271 = some ⟨(.func #[256] #[] false), 1, 8, .nilFunc⟩ := ty_mk Tryz.underlying271 (by kernel_rfl)
theorem ty272 : ty Tryz.prog 272 = some ⟨(.func #[] #[271] false), 1, 8, .nilFunc⟩ := ty_mk Tryz.underlying272 (by kernel_rfl)
theorem ty273 : ty Tryz.prog 273 = some ⟨(.pointer 334), 1, 8, (.pointer none)⟩ := ty_mk Tryz.underlying273 (by kernel_rfl)
theorem ty275 : ty Tryz.prog 275 = some ⟨(.func #[218, 163] #[273, 27] false), 1, 8, .nilFunc⟩ := ty_mk Tryz.underlying275 (by kernel_rfl)
theorem ty277 : ty Tryz.prog 277 = some ⟨(.struct #[{ name := "least", type := 3, offset := 0, embedded := false, tag := "", pkgPath := "midden/shape", byteOffset := 0 }, { name := "most", type := 3, offset := 1, embedded := false, tag := "", pkgPath := "midden/shape", byteOffset := 8 }, { name := "nons", type := 3, offset := 2, embedded := false, tag := "", pkgPath := "midden/shape", byteOffset := 16 }, { name := "more", type := 4, offset := 3, embedded := false, tag := "", pkgPath := "midden/shape", byteOffset := 24 }, { name := "info", type := 4, offset := 4, embedded := false, tag := "", pkgPath := "midden/shape", byteOffset := 25 }]), 5, 32, (.agg #[(.int .i64 0), (.int .i64 0), (.int .i64 0), (.bool false), (.bool false)])⟩ := ty_mk Tryz.underlying277 (by kernel_rfl)
theorem ty279 : ty Tryz.prog 279 = some ⟨(.func #[3] #[277, 4] false), 1, 8, .nilFunc⟩ := ty_mk Tryz.underlying279 (by kernel_rfl)
theorem ty281 : ty Tryz.prog 281 = some ⟨(.func #[171] #[3] false), 1, 8, .nilFunc⟩ := ty_mk Tryz.underlying281 (by kernel_rfl)
theorem ty282 : ty Tryz.prog 282 = some ⟨(.func #[3, 171] #[] false), 1, 8, .nilFunc⟩ := ty_mk Tryz.underlying282 (by kernel_rfl)
theorem ty283 : ty Tryz.prog 283 = some ⟨(.func #[3, 128] #[27] false), 1, 8, .nilFunc⟩ := ty_mk Tryz.underlying283 (by kernel_rfl)
theorem ty284 : ty Tryz.prog 284 = some ⟨(.func #[] #[86] false), 1, 8, .nilFunc⟩ := ty_mk Tryz.underlying284 (by kernel_rfl)
theorem ty285 : ty Tryz.prog 285 = some ⟨(.func #[122] #[] false), 1, 8, .nilFunc⟩ := ty_mk Tryz.underlying285 (by kernel_rfl)
theorem ty286 : ty Tryz.prog 286 = some ⟨(.func #[3, 86] #[] false), 1, 8, .nilFunc⟩ := ty_mk Tryz.underlying286 (by kernel_rfl)
theorem ty288 : ty Tryz.prog 288 = some ⟨(.func #[155, 3, 86] #[86, 27] false), 1, 8, .nilFunc⟩ := ty_mk Tryz.underlying288 (by kernel_rfl)
theorem ty289 : ty Tryz.prog 289 = some ⟨(.func #[65] #[] false), 1, 8, .nilFunc⟩ := ty_mk Tryz.underlying289 (by kernel_rfl)
theorem ty290 : ty Tryz.prog 290 = some ⟨(.func #[209] #[4] false), 1, 8, .nilFunc⟩ := ty_mk Tryz.underlying290 (by kernel_rfl)
theorem ty291 : ty Tryz.prog 291 = some ⟨(.func #[86] #[86] false), 1, 8, .nilFunc⟩ := ty_mk Tryz.underlying291 (by kernel_rfl)
theorem ty292 : ty Tryz.prog 292 = some ⟨(.func #[294] #[4] false), 1, 8, .nilFunc⟩ := ty_mk Tryz.underlying292 (by kernel_rfl)
theorem ty294 : ty Tryz.prog 294 = some ⟨(.struct #[{ name := "Kind", type := 3, offset := 0, embedded := false, tag := "", pkgPath := "", byteOffset := 0 }, { name := "A", type := 3, offset := 1, embedded := false, tag := "", pkgPath := "", byteOffset := 8 }, { name := "B", type := 3, offset := 2, embedded := false, tag := "", pkgPath := "", byteOffset := 16 }, { name := "Ptrs", type := 86, offset := 3, embedded := false, tag := "", pkgPath := "", byteOffset := 24 }]), 4, 48, (.agg #[(.int .i64 0), (.int .i64 0), (.int .i64 0), (.slice none 0 0)])⟩ := ty_mk Tryz.underlying294 (by kernel_rfl)
theorem ty295 : ty Tryz.prog 295 = some ⟨(.func #[210] #[27] false), 1, 8, .nilFunc⟩ := ty_mk Tryz.underlying295 (by kernel_rfl)
theorem ty296 : ty Tryz.prog 296 = some ⟨(.func #[3, 3, 86] #[27] false), 1, 8, .nilFunc⟩ := ty_mk Tryz.underlying296 (by kernel_rfl)
theorem ty297 : ty Tryz.prog 297 = some ⟨(.func #[3] #[171, 27] false), 1, 8, .nilFunc⟩ := ty_mk Tryz.underlying297 (by kernel_rfl)
theorem ty298 : ty Tryz.prog 298 = some ⟨(.func #[3, 3] #[3, 27] false), 1, 8, .nilFunc⟩ := ty_mk Tryz.underlying298 (by kernel_rfl)
theorem ty300 : ty Tryz.prog 300 = some ⟨(.func #[3, 3] #[128, 27] false), 1, 8, .nilFunc⟩ := ty_mk Tryz.underlying300 (by kernel_rfl)
theorem ty301 : ty Tryz.prog 301 = some ⟨(.func #[171, 86] #[] false), 1, 8, .nilFunc⟩ := ty_mk Tryz.underlying301 (by kernel_rfl)
theorem ty302 : ty Tryz.prog 302 = some ⟨(.func #[303] #[27] false), 1, 8, .nilFunc⟩ := ty_mk Tryz.underlying302 (by kernel_rfl)
theorem ty303 : ty Tryz.prog 303 = some ⟨(.func #[] #[3, 4] false), 1, 8, .nilFunc⟩ := ty_mk Tryz.underlying303 (by kernel_rfl)
theorem ty305 : ty Tryz.prog 305 = some ⟨(.func #[] #[294, 27] false), 1, 8, .nilFunc⟩ := ty_mk Tryz.underlying305 (by kernel_rfl)
theorem ty306 : ty Tryz.prog 306 = some ⟨(.func #[3, 3] #[3] false), 1, 8, .nilFunc⟩ := ty_mk Tryz.underlying306 (by kernel_rfl)
theorem ty307 : ty Tryz.prog 307 = some ⟨(.func #[3, 27] #[27] false), 1, 8, .nilFunc⟩ := ty_mk Tryz.underlying307 (by kernel_rfl)
theorem ty308 : ty Tryz.prog 308 = some ⟨(.func #[] #[42] false), 1, 8, .nilFunc⟩ := ty_mk Tryz.underlying308 (by kernel_rfl)
theorem ty309 : ty Tryz.prog 309 = some ⟨(.func #[] #[148] false), 1, 8, .nilFunc⟩ := ty_mk Tryz.underlying309 (by kernel_rfl)
theorem ty310 : ty Tryz.prog 310 = some ⟨(.func #[148, 198, 3, 3] #[] false), 1, 8, .nilFunc⟩ := ty_mk Tryz.underlying310 (by kernel_rfl)
theorem ty312 : ty Tryz.prog 312 = some ⟨(.struct #[{ name := "Name", type := 9, offset := 0, embedded := false, tag := "", pkgPath := "", byteOffset := 0 }, { name := "N", type := 2, offset := 1, embedded := false, tag := "", pkgPath := "", byteOffset := 16 }]), 2, 24, (.agg #[(.string ⟨#[]⟩), (.int .i64 0)])⟩ := ty_mk Tryz.underlying312 (by kernel_rfl)
theorem ty313 : ty Tryz.prog 313 = some ⟨(.array 3 3), 3, 24, (.agg #[(.int .i64 0), (.int .i64 0), (.int .i64 0)])⟩ := ty_mk Tryz.underlying313 (by kernel_rfl)
theorem ty315 : ty Tryz.prog 315 = some ⟨(.struct #[{ name := "name", type := 9, offset := 0, embedded := false, tag := "", pkgPath := "midden/prim", byteOffset := 0 }, { name := "arity", type := 3, offset := 1, embedded := false, tag := "", pkgPath := "midden/prim", byteOffset := 16 }, { name := "need", type := 313, offset := 2, embedded := false, tag := "", pkgPath := "midden/prim", byteOffset := 24 }]), 5, 48, (.agg #[(.string ⟨#[]⟩), (.int .i64 0), (.int .i64 0), (.int .i64 0), (.int .i64 0)])⟩ := ty_mk Tryz.underlying315 (by kernel_rfl)
theorem ty316 : ty Tryz.prog 316 = some ⟨(.array 17 315), 85, 816, (.agg #[(.string ⟨#[]⟩), (.int .i64 0), (.int .i64 0), (.int .i64 0), (.int .i64 0), (.string ⟨#[]⟩), (.int .i64 0), (.int .i64 0), (.int .i64 0), (.int .i64 0), (.string ⟨#[]⟩), (.int .i64 0), (.int .i64 0), (.int .i64 0), (.int .i64 0), (.string ⟨#[]⟩), (.int .i64 0), (.int .i64 0), (.int .i64 0), (.int .i64 0), (.string ⟨#[]⟩), (.int .i64 0), (.int .i64 0), (.int .i64 0), (.int .i64 0), (.string ⟨#[]⟩), (.int .i64 0), (.int .i64 0), (.int .i64 0), (.int .i64 0), (.string ⟨#[]⟩), (.int .i64 0), (.int .i64 0), (.int .i64 0), (.int .i64 0), (.string ⟨#[]⟩), (.int .i64 0), (.int .i64 0), (.int .i64 0), (.int .i64 0), (.string ⟨#[]⟩), (.int .i64 0), (.int .i64 0), (.int .i64 0), (.int .i64 0), (.string ⟨#[]⟩), (.int .i64 0), (.int .i64 0), (.int .i64 0), (.int .i64 0), (.string ⟨#[]⟩), (.int .i64 0), (.int .i64 0), (.int .i64 0), (.int .i64 0), (.string ⟨#[]⟩), (.int .i64 0), (.int .i64 0), (.int .i64 0), (.int .i64 0), (.string ⟨#[]⟩), (.int .i64 0), (.int .i64 0), (.int .i64 0), (.int .i64 0), (.string ⟨#[]⟩), (.int .i64 0), (.int .i64 0), (.int .i64 0), (.int .i64 0), (.string ⟨#[]⟩), (.int .i64 0), (.int .i64 0), (.int .i64 0), (.int .i64 0), (.string ⟨#[]⟩), (.int .i64 0), (.int .i64 0), (.int .i64 0), (.int .i64 0), (.string ⟨#[]⟩), (.int .i64 0), (.int .i64 0), (.int .i64 0), (.int .i64 0)])⟩ := ty_mk Tryz.underlying316 (by kernel_rfl)
theorem ty317 : ty Tryz.prog 317 = some ⟨(.func #[150] #[3] false), 1, 8, .nilFunc⟩ := ty_mk Tryz.underlying317 (by kernel_rfl)
theorem ty318 : ty Tryz.prog 318 = some ⟨(.func #[3, 42] #[206] true), 1, 8, .nilFunc⟩ := ty_mk Tryz.underlying318 (by kernel_rfl)
theorem ty320 : ty Tryz.prog 320 = some ⟨(.func #[150] #[9, 3, 9, 4] false), 1, 8, .nilFunc⟩ := ty_mk Tryz.underlying320 (by kernel_rfl)
theorem ty321 : ty Tryz.prog 321 = some ⟨(.func #[42, 206] #[42] false), 1, 8, .nilFunc⟩ := ty_mk Tryz.underlying321 (by kernel_rfl)
theorem ty322 : ty Tryz.prog 322 = some ⟨(.func #[150] #[42] false), 1, 8, .nilFunc⟩ := ty_mk Tryz.underlying322 (by kernel_rfl)
theorem ty323 : ty Tryz.prog 323 = some ⟨(.func #[42, 206] #[86] false), 1, 8, .nilFunc⟩ := ty_mk Tryz.underlying323 (by kernel_rfl)
theorem ty324 : ty Tryz.prog 324 = some ⟨(.func #[148] #[42] false), 1, 8, .nilFunc⟩ := ty_mk Tryz.underlying324 (by kernel_rfl)
theorem ty325 : ty Tryz.prog 325 = some ⟨(.func #[146, 206] #[42] false), 1, 8, .nilFunc⟩ := ty_mk Tryz.underlying325 (by kernel_rfl)
theorem ty327 : ty Tryz.prog 327 = some ⟨(.struct #[{ name := "Kind", type := 3, offset := 0, embedded := false, tag := "", pkgPath := "", byteOffset := 0 }, { name := "At", type := 3, offset := 1, embedded := false, tag := "", pkgPath := "", byteOffset := 8 }, { name := "Name", type := 9, offset := 2, embedded := false, tag := "", pkgPath := "", byteOffset := 16 }, { name := "N", type := 2, offset := 3, embedded := false, tag := "", pkgPath := "", byteOffset := 32 }, { name := "Vars", type := 42, offset := 4, embedded := false, tag := "", pkgPath := "", byteOffset := 40 }, { name := "Body", type := 148, offset := 5, embedded := false, tag := "", pkgPath := "", byteOffset := 64 }]), 13, 200, (.agg #[(.int .i64 0), (.int .i64 0), (.string ⟨#[]⟩), (.int .i64 0), (.slice none 0 0), (.int .i64 0), (.int .i64 0), (.string ⟨#[]⟩), (.int .i64 0), (.slice none 0 0), (.slice none 0 0), (.slice none 0 0), (.slice none 0 0)])⟩ := ty_mk Tryz.underlying327 (by kernel_rfl)
theorem ty329 : ty Tryz.prog 329 = some ⟨(.struct #[{ name := "Kind", type := 3, offset := 0, embedded := false, tag := "", pkgPath := "", byteOffset := 0 }, { name := "Con", type := 3, offset := 1, embedded := false, tag := "", pkgPath := "", byteOffset := 8 }, { name := "N", type := 2, offset := 2, embedded := false, tag := "", pkgPath := "", byteOffset := 16 }, { name := "To", type := 3, offset := 3, embedded := false, tag := "", pkgPath := "", byteOffset := 24 }]), 4, 32, (.agg #[(.int .i64 0), (.int .i64 0), (.int .i64 0), (.int .i64 0)])⟩ := ty_mk Tryz.underlying329 (by kernel_rfl)
theorem ty330 : ty Tryz.prog 330 = some ⟨(.slice 180), 1, 24, (.slice none 0 0)⟩ := ty_mk Tryz.underlying330 (by kernel_rfl)
theorem ty331 : ty Tryz.prog 331 = some ⟨(.func #[177] #[3] false), 1, 8, .nilFunc⟩ := ty_mk Tryz.underlying331 (by kernel_rfl)
theorem ty332 : ty Tryz.prog 332 = some ⟨(.func #[3, 86] #[4] true), 1, 8, .nilFunc⟩ := ty_mk Tryz.underlying332 (by kernel_rfl)
theorem ty334 : ty Tryz.prog 334 = some ⟨(.struct #[{ name := "p", type := 218, offset := 0, embedded := false, tag := "", pkgPath := "midden/bump", byteOffset := 0 }, { name := "a", type := 163, offset := 1, embedded := false, tag := "", pkgPath := "midden/bump", byteOffset := 8 }, { name := "groups", type := 86, offset := 2, embedded := false, tag := "", pkgPath := "midden/bump", byteOffset := 16 }, { name := "blocks", type := 3, offset := 3, embedded := false, tag := "", pkgPath := "midden/bump", byteOffset := 40 }, { name := "at", type := 86, offset := 4, embedded := false, tag := "", pkgPath := "midden/bump", byteOffset := 48 }, { name := "many", type := 86, offset := 5, embedded := false, tag := "", pkgPath := "midden/bump", byteOffset := 72 }, { name := "met", type := 269, offset := 6, embedded := false, tag := "", pkgPath := "midden/bump", byteOffset := 96 }, { name := "used", type := 3, offset := 7, embedded := false, tag := "", pkgPath := "midden/bump", byteOffset := 104 }, { name := "next", type := 3, offset := 8, embedded := false, tag := "", pkgPath := "midden/bump", byteOffset := 112 }, { name := "left", type := 3, offset := 9, embedded := false, tag := "", pkgPath := "midden/bump", byteOffset := 120 }]), 10, 128, (.agg #[(.pointer none), (.pointer none), (.slice none 0 0), (.int .i64 0), (.slice none 0 0), (.slice none 0 0), (.map none), (.int .i64 0), (.int .i64 0), (.int .i64 0)])⟩ := ty_mk Tryz.underlying334 (by kernel_rfl)
theorem ty335 : ty Tryz.prog 335 = some ⟨(.func #[171] #[128, 27] false), 1, 8, .nilFunc⟩ := ty_mk Tryz.underlying335 (by kernel_rfl)
theorem ty336 : ty Tryz.prog 336 = some ⟨(.slice 86), 1, 24, (.slice none 0 0)⟩ := ty_mk Tryz.underlying336 (by kernel_rfl)
theorem ty337 : ty Tryz.prog 337 = some ⟨(.func #[3] #[86] false), 1, 8, .nilFunc⟩ := ty_mk Tryz.underlying337 (by kernel_rfl)
theorem ty338 : ty Tryz.prog 338 = some ⟨(.pointer 340), 1, 8, (.pointer none)⟩ := ty_mk Tryz.underlying338 (by kernel_rfl)
theorem ty340 : ty Tryz.prog 340 = some ⟨(.struct #[{ name := "h", type := 155, offset := 0, embedded := false, tag := "", pkgPath := "midden/collect", byteOffset := 0 }, { name := "e", type := 27, offset := 1, embedded := false, tag := "", pkgPath := "midden/collect", byteOffset := 8 }]), 2, 16, (.agg #[(.pointer none), (.int .i64 0)])⟩ := ty_mk Tryz.underlying340 (by kernel_rfl)
theorem ty341 : ty Tryz.prog 341 = some ⟨(.pointer 343), 1, 8, (.pointer none)⟩ := ty_mk Tryz.underlying341 (by kernel_rfl)
theorem ty343 : ty Tryz.prog 343 = some ⟨(.struct #[{ name := "at", type := 3, offset := 0, embedded := false, tag := "", pkgPath := "midden/machine", byteOffset := 0 }, { name := "next", type := 3, offset := 1, embedded := false, tag := "", pkgPath := "midden/machine", byteOffset := 8 }, { name := "many", type := 3, offset := 2, embedded := false, tag := "", pkgPath := "midden/machine", byteOffset := 16 }, { name := "depth", type := 3, offset := 3, embedded := false, tag := "", pkgPath := "midden/machine", byteOffset := 24 }, { name := "tree", type := 35, offset := 4, embedded := false, tag := "", pkgPath := "midden/machine", byteOffset := 32 }]), 8, 88, (.agg #[(.int .i64 0), (.int .i64 0), (.int .i64 0), (.int .i64 0), (.int .i64 0), (.string ⟨#[]⟩), (.int .i64 0), (.slice none 0 0)])⟩ := ty_mk Tryz.underlying343 (by kernel_rfl)
theorem ty344 : ty Tryz.prog 344 = some ⟨(.func #[3, 3, 3] #[27] false), 1, 8, .nilFunc⟩ := ty_mk Tryz.underlying344 (by kernel_rfl)
theorem ty345 : ty Tryz.prog 345 = some ⟨(.func #[294] #[27] false), 1, 8, .nilFunc⟩ := ty_mk Tryz.underlying345 (by kernel_rfl)
theorem ty346 : ty Tryz.prog 346 = some ⟨(.func #[3] #[128] false), 1, 8, .nilFunc⟩ := ty_mk Tryz.underlying346 (by kernel_rfl)
theorem ty347 : ty Tryz.prog 347 = some ⟨(.func #[3] #[294] false), 1, 8, .nilFunc⟩ := ty_mk Tryz.underlying347 (by kernel_rfl)
theorem ty348 : ty Tryz.prog 348 = some ⟨(.func #[3, 3] #[] false), 1, 8, .nilFunc⟩ := ty_mk Tryz.underlying348 (by kernel_rfl)
theorem ty349 : ty Tryz.prog 349 = some ⟨(.func #[3] #[315] false), 1, 8, .nilFunc⟩ := ty_mk Tryz.underlying349 (by kernel_rfl)
theorem ty350 : ty Tryz.prog 350 = some ⟨(.func #[] #[144] false), 1, 8, .nilFunc⟩ := ty_mk Tryz.underlying350 (by kernel_rfl)
theorem ty351 : ty Tryz.prog 351 = some ⟨(.func #[] #[327] false), 1, 8, .nilFunc⟩ := ty_mk Tryz.underlying351 (by kernel_rfl)
theorem ty352 : ty Tryz.prog 352 = some ⟨(.func #[327, 146, 198] #[] false), 1, 8, .nilFunc⟩ := ty_mk Tryz.underlying352 (by kernel_rfl)
theorem ty353 : ty Tryz.prog 353 = some ⟨(.func #[148] #[4] false), 1, 8, .nilFunc⟩ := ty_mk Tryz.underlying353 (by kernel_rfl)
theorem ty354 : ty Tryz.prog 354 = some ⟨(.func #[42, 42] #[42] true), 1, 8, .nilFunc⟩ := ty_mk Tryz.underlying354 (by kernel_rfl)
theorem ty355 : ty Tryz.prog 355 = some ⟨(.func #[327] #[42] false), 1, 8, .nilFunc⟩ := ty_mk Tryz.underlying355 (by kernel_rfl)
theorem ty356 : ty Tryz.prog 356 = some ⟨(.func #[42] #[42] false), 1, 8, .nilFunc⟩ := ty_mk Tryz.underlying356 (by kernel_rfl)
theorem ty357 : ty Tryz.prog 357 = some ⟨(.int .u64), 1, 8, (.int .u64 0)⟩ := ty_mk Tryz.underlying357 (by kernel_rfl)
theorem ty359 : ty Tryz.prog 359 = some ⟨(.func #[3] #[3, 3, 27] false), 1, 8, .nilFunc⟩ := ty_mk Tryz.underlying359 (by kernel_rfl)
theorem ty360 : ty Tryz.prog 360 = some ⟨(.func #[185] #[] false), 1, 8, .nilFunc⟩ := ty_mk Tryz.underlying360 (by kernel_rfl)
theorem ty361 : ty Tryz.prog 361 = some ⟨(.func #[185] #[] false), 1, 8, .nilFunc⟩ := ty_mk Tryz.underlying361 (by kernel_rfl)
theorem ty362 : ty Tryz.prog 362 = some ⟨(.func #[171] #[361] false), 1, 8, .nilFunc⟩ := ty_mk Tryz.underlying362 (by kernel_rfl)
theorem ty363 : ty Tryz.prog 363 = some ⟨(.func #[292] #[] false), 1, 8, .nilFunc⟩ := ty_mk Tryz.underlying363 (by kernel_rfl)
theorem ty364 : ty Tryz.prog 364 = some ⟨(.func #[292] #[] false), 1, 8, .nilFunc⟩ := ty_mk Tryz.underlying364 (by kernel_rfl)
theorem ty365 : ty Tryz.prog 365 = some ⟨(.func #[] #[364] false), 1, 8, .nilFunc⟩ := ty_mk Tryz.underlying365 (by kernel_rfl)
theorem ty366 : ty Tryz.prog 366 = some ⟨(.func #[3] #[9] false), 1, 8, .nilFunc⟩ := ty_mk Tryz.underlying366 (by kernel_rfl)
theorem ty367 : ty Tryz.prog 367 = some ⟨(.func #[3] #[2] false), 1, 8, .nilFunc⟩ := ty_mk Tryz.underlying367 (by kernel_rfl)
theorem ty368 : ty Tryz.prog 368 = some ⟨(.func #[2] #[27] false), 1, 8, .nilFunc⟩ := ty_mk Tryz.underlying368 (by kernel_rfl)
theorem ty370 : ty Tryz.prog 370 = some ⟨(.func #[3, 2, 2] #[2, 27] false), 1, 8, .nilFunc⟩ := ty_mk Tryz.underlying370 (by kernel_rfl)
theorem ty371 : ty Tryz.prog 371 = some ⟨(.func #[128] #[171, 27] false), 1, 8, .nilFunc⟩ := ty_mk Tryz.underlying371 (by kernel_rfl)
theorem ty372 : ty Tryz.prog 372 = some ⟨(.func #[3] #[128, 27] false), 1, 8, .nilFunc⟩ := ty_mk Tryz.underlying372 (by kernel_rfl)
theorem ty373 : ty Tryz.prog 373 = some ⟨(.func #[171, 3] #[171, 27] false), 1, 8, .nilFunc⟩ := ty_mk Tryz.underlying373 (by kernel_rfl)
theorem ty374 : ty Tryz.prog 374 = some ⟨(.func #[42, 32] #[4] false), 1, 8, .nilFunc⟩ := ty_mk Tryz.underlying374 (by kernel_rfl)
theorem ty375 : ty Tryz.prog 375 = some ⟨(.func #[3] #[269] false), 1, 8, .nilFunc⟩ := ty_mk Tryz.underlying375 (by kernel_rfl)
theorem ty376 : ty Tryz.prog 376 = some ⟨(.func #[86] #[] false), 1, 8, .nilFunc⟩ := ty_mk Tryz.underlying376 (by kernel_rfl)
theorem ty377 : ty Tryz.prog 377 = some ⟨(.func #[128] #[3, 4] false), 1, 8, .nilFunc⟩ := ty_mk Tryz.underlying377 (by kernel_rfl)
theorem ty378 : ty Tryz.prog 378 = some ⟨(.func #[3, 3] #[273] false), 1, 8, .nilFunc⟩ := ty_mk Tryz.underlying378 (by kernel_rfl)
theorem ty379 : ty Tryz.prog 379 = some ⟨(.func #[3, 171, 3] #[3] false), 1, 8, .nilFunc⟩ := ty_mk Tryz.underlying379 (by kernel_rfl)
theorem ty380 : ty Tryz.prog 380 = some ⟨(.slice 294), 1, 24, (.slice none 0 0)⟩ := ty_mk Tryz.underlying380 (by kernel_rfl)
theorem ty382 : ty Tryz.prog 382 = some ⟨(.struct #[{ name := "leastA", type := 3, offset := 0, embedded := false, tag := "", pkgPath := "midden/stack", byteOffset := 0 }, { name := "a", type := 3, offset := 1, embedded := false, tag := "", pkgPath := "midden/stack", byteOffset := 8 }, { name := "b", type := 3, offset := 2, embedded := false, tag := "", pkgPath := "midden/stack", byteOffset := 16 }, { name := "leastPtrs", type := 3, offset := 3, embedded := false, tag := "", pkgPath := "midden/stack", byteOffset := 24 }, { name := "ptrs", type := 3, offset := 4, embedded := false, tag := "", pkgPath := "midden/stack", byteOffset := 32 }]), 5, 40, (.agg #[(.int .i64 0), (.int .i64 0), (.int .i64 0), (.int .i64 0), (.int .i64 0)])⟩ := ty_mk Tryz.underlying382 (by kernel_rfl)
theorem ty384 : ty Tryz.prog 384 = some ⟨(.func #[3] #[382, 4] false), 1, 8, .nilFunc⟩ := ty_mk Tryz.underlying384 (by kernel_rfl)
theorem ty385 : ty Tryz.prog 385 = some ⟨(.func #[4] #[2] false), 1, 8, .nilFunc⟩ := ty_mk Tryz.underlying385 (by kernel_rfl)
theorem ty386 : ty Tryz.prog 386 = some ⟨(.array 4 128), 4, 32, (.agg #[(.int .u64 0), (.int .u64 0), (.int .u64 0), (.int .u64 0)])⟩ := ty_mk Tryz.underlying386 (by kernel_rfl)
theorem ty387 : ty Tryz.prog 387 = some ⟨(.func #[271] #[271] false), 1, 8, .nilFunc⟩ := ty_mk Tryz.underlying387 (by kernel_rfl)
theorem ty388 : ty Tryz.prog 388 = some ⟨(.func #[86, 3, 3, 3] #[] false), 1, 8, .nilFunc⟩ := ty_mk Tryz.underlying388 (by kernel_rfl)
theorem ty389 : ty Tryz.prog 389 = some ⟨(.func #[357] #[3] false), 1, 8, .nilFunc⟩ := ty_mk Tryz.underlying389 (by kernel_rfl)
theorem ty390 : ty Tryz.prog 390 = some ⟨(.func #[3] #[3, 4] false), 1, 8, .nilFunc⟩ := ty_mk Tryz.underlying390 (by kernel_rfl)
theorem ty391 : ty Tryz.prog 391 = some ⟨(.func #[86, 3, 3] #[] false), 1, 8, .nilFunc⟩ := ty_mk Tryz.underlying391 (by kernel_rfl)
theorem ty392 : ty Tryz.prog 392 = some ⟨(.int .i64), 1, 8, (.int .i64 0)⟩ := ty_mk Tryz.underlying392 (by kernel_rfl)
theorem ty394 : ty Tryz.prog 394 = some ⟨(.func #[86, 3, 3] #[3, 392] false), 1, 8, .nilFunc⟩ := ty_mk Tryz.underlying394 (by kernel_rfl)
theorem ty395 : ty Tryz.prog 395 = some ⟨(.func #[86, 3, 3] #[4] false), 1, 8, .nilFunc⟩ := ty_mk Tryz.underlying395 (by kernel_rfl)
theorem ty396 : ty Tryz.prog 396 = some ⟨(.func #[86, 3, 3, 3] #[3] false), 1, 8, .nilFunc⟩ := ty_mk Tryz.underlying396 (by kernel_rfl)
theorem ty397 : ty Tryz.prog 397 = some ⟨(.func #[86, 3, 3, 3] #[3, 4] false), 1, 8, .nilFunc⟩ := ty_mk Tryz.underlying397 (by kernel_rfl)
theorem ty398 : ty Tryz.prog 398 = some ⟨(.func #[399] #[3] false), 1, 8, .nilFunc⟩ := ty_mk Tryz.underlying398 (by kernel_rfl)
theorem ty399 : ty Tryz.prog 399 = some ⟨(.int .u32), 1, 4, (.int .u32 0)⟩ := ty_mk Tryz.underlying399 (by kernel_rfl)
theorem ty400 : ty Tryz.prog 400 = some ⟨(.func #[128] #[3] false), 1, 8, .nilFunc⟩ := ty_mk Tryz.underlying400 (by kernel_rfl)
theorem ty401 : ty Tryz.prog 401 = some ⟨(.int .u64), 1, 8, (.int .u64 0)⟩ := ty_mk Tryz.underlying401 (by kernel_rfl)
theorem ty402 : ty Tryz.prog 402 = some ⟨(.func #[3] #[357] false), 1, 8, .nilFunc⟩ := ty_mk Tryz.underlying402 (by kernel_rfl)
theorem ty403 : ty Tryz.prog 403 = some ⟨(.func #[] #[128] false), 1, 8, .nilFunc⟩ := ty_mk Tryz.underlying403 (by kernel_rfl)
theorem ty404 : ty Tryz.prog 404 = some ⟨(.func #[86, 3, 405] #[3] false), 1, 8, .nilFunc⟩ := ty_mk Tryz.underlying404 (by kernel_rfl)
theorem ty405 : ty Tryz.prog 405 = some ⟨(.pointer 3), 1, 8, (.pointer none)⟩ := ty_mk Tryz.underlying405 (by kernel_rfl)
theorem ty406 : ty Tryz.prog 406 = some ⟨(.func #[86, 3, 3, 3, 405] #[3] false), 1, 8, .nilFunc⟩ := ty_mk Tryz.underlying406 (by kernel_rfl)
theorem ty407 : ty Tryz.prog 407 = some ⟨(.pointer 401), 1, 8, (.pointer none)⟩ := ty_mk Tryz.underlying407 (by kernel_rfl)
theorem ty409 : ty Tryz.prog 409 = some ⟨(.func #[86, 3, 3, 405] #[3, 3] false), 1, 8, .nilFunc⟩ := ty_mk Tryz.underlying409 (by kernel_rfl)
theorem ty410 : ty Tryz.prog 410 = some ⟨(.func #[] #[9] false), 1, 8, .nilFunc⟩ := ty_mk Tryz.underlying410 (by kernel_rfl)
theorem ty413 : ty Tryz.prog 413 = some ⟨(.array 0 16), 0, 0, (.agg #[])⟩ := ty_mk Tryz.underlying413 (by kernel_rfl)
theorem ty416 : ty Tryz.prog 416 = some ⟨(.int .u8), 1, 1, (.int .u8 0)⟩ := ty_mk Tryz.underlying416 (by kernel_rfl)
theorem ty417 : ty Tryz.prog 417 = some ⟨(.int .u8), 1, 1, (.int .u8 0)⟩ := ty_mk Tryz.underlying417 (by kernel_rfl)
theorem ty418 : ty Tryz.prog 418 = some ⟨(.func #[424, 424] #[4] false), 1, 8, .nilFunc⟩ := ty_mk Tryz.underlying418 (by kernel_rfl)
theorem ty419 : ty Tryz.prog 419 = some ⟨(.pointer 5), 1, 8, (.pointer none)⟩ := ty_mk Tryz.underlying419 (by kernel_rfl)
theorem ty420 : ty Tryz.prog 420 = some ⟨(.int .i32), 1, 4, (.int .i32 0)⟩ := ty_mk Tryz.underlying420 (by kernel_rfl)
theorem ty421 : ty Tryz.prog 421 = some ⟨(.int .i32), 1, 4, (.int .i32 0)⟩ := ty_mk Tryz.underlying421 (by kernel_rfl)
theorem ty423 : ty Tryz.prog 423 = some ⟨(.struct #[{ name := "Size_", type := 12, offset := 0, embedded := false, tag := "", pkgPath := "", byteOffset := 0 }, { name := "PtrBytes", type := 12, offset := 1, embedded := false, tag := "", pkgPath := "", byteOffset := 8 }, { name := "Hash", type := 399, offset := 2, embedded := false, tag := "", pkgPath := "", byteOffset := 16 }, { name := "TFlag", type := 416, offset := 3, embedded := false, tag := "", pkgPath := "", byteOffset := 20 }, { name := "Align_", type := 5, offset := 4, embedded := false, tag := "", pkgPath := "", byteOffset := 21 }, { name := "FieldAlign_", type := 5, offset := 5, embedded := false, tag := "", pkgPath := "", byteOffset := 22 }, { name := "Kind_", type := 417, offset := 6, embedded := false, tag := "", pkgPath := "", byteOffset := 23 }, { name := "Equal", type := 418, offset := 7, embedded := false, tag := "", pkgPath := "", byteOffset := 24 }, { name := "GCData", type := 419, offset := 8, embedded := false, tag := "", pkgPath := "", byteOffset := 32 }, { name := "Str", type := 420, offset := 9, embedded := false, tag := "", pkgPath := "", byteOffset := 40 }, { name := "PtrToThis", type := 421, offset := 10, embedded := false, tag := "", pkgPath := "", byteOffset := 44 }]), 11, 48, (.agg #[(.int .u64 0), (.int .u64 0), (.int .u32 0), (.int .u8 0), (.int .u8 0), (.int .u8 0), (.int .u8 0), .nilFunc, (.pointer none), (.int .i32 0), (.int .i32 0)])⟩ := ty_mk Tryz.underlying423 (by kernel_rfl)
theorem fd23_0 : fdAt Tryz.prog 23 0 = some (0, ⟨(.int .i64), 1, 8, (.int .i64 0)⟩) := fdAt_mk Tryz.underlying23 rfl ty3
theorem fd23_1 : fdAt Tryz.prog 23 1 = some (1, ⟨(.int .i64), 1, 8, (.int .i64 0)⟩) := fdAt_mk Tryz.underlying23 rfl ty3
theorem fd23_2 : fdAt Tryz.prog 23 2 = some (2, ⟨(.int .i64), 1, 8, (.int .i64 0)⟩) := fdAt_mk Tryz.underlying23 rfl ty3
theorem fd23_3 : fdAt Tryz.prog 23 3 = some (3, ⟨(.int .i64), 1, 8, (.int .i64 0)⟩) := fdAt_mk Tryz.underlying23 rfl ty3
theorem fd23_4 : fdAt Tryz.prog 23 4 = some (4, ⟨(.int .i64), 1, 8, (.int .i64 0)⟩) := fdAt_mk Tryz.underlying23 rfl ty3
theorem fd26_0 : fdAt Tryz.prog 26 0 = some (0, ⟨(.struct #[{ name := "Gens", type := 3, offset := 0, embedded := false, tag := "", pkgPath := "", byteOffset := 0 }, { name := "Steps", type := 3, offset := 1, embedded := false, tag := "", pkgPath := "", byteOffset := 8 }, { name := "Blocks", type := 3, offset := 2, embedded := false, tag := "", pkgPath := "", byteOffset := 16 }, { name := "Nursery", type := 3, offset := 3, embedded := false, tag := "", pkgPath := "", byteOffset := 24 }, { name := "Hops", type := 3, offset := 4, embedded := false, tag := "", pkgPath := "", byteOffset := 32 }]), 5, 40, (.agg #[(.int .i64 0), (.int .i64 0), (.int .i64 0), (.int .i64 0), (.int .i64 0)])⟩) := fdAt_mk Tryz.underlying26 rfl ty23
theorem fd26_1 : fdAt Tryz.prog 26 1 = some (5, ⟨(.int .i64), 1, 8, (.int .i64 0)⟩) := fdAt_mk Tryz.underlying26 rfl ty3
theorem fd26_2 : fdAt Tryz.prog 26 2 = some (6, ⟨.string, 1, 16, (.string ⟨#[]⟩)⟩) := fdAt_mk Tryz.underlying26 rfl ty9
theorem fd26_3 : fdAt Tryz.prog 26 3 = some (7, ⟨(.slice 51), 1, 24, (.slice none 0 0)⟩) := fdAt_mk Tryz.underlying26 rfl ty24
theorem fd35_0 : fdAt Tryz.prog 35 0 = some (0, ⟨(.int .i64), 1, 8, (.int .i64 0)⟩) := fdAt_mk Tryz.underlying35 rfl ty3
theorem fd35_1 : fdAt Tryz.prog 35 1 = some (1, ⟨.string, 1, 16, (.string ⟨#[]⟩)⟩) := fdAt_mk Tryz.underlying35 rfl ty9
theorem fd35_2 : fdAt Tryz.prog 35 2 = some (2, ⟨(.int .i64), 1, 8, (.int .i64 0)⟩) := fdAt_mk Tryz.underlying35 rfl ty2
theorem fd35_3 : fdAt Tryz.prog 35 3 = some (3, ⟨(.slice 35), 1, 24, (.slice none 0 0)⟩) := fdAt_mk Tryz.underlying35 rfl ty33
theorem fd49_0 : fdAt Tryz.prog 49 0 = some (0, ⟨(.int .i64), 1, 8, (.int .i64 0)⟩) := fdAt_mk Tryz.underlying49 rfl ty3
theorem fd49_1 : fdAt Tryz.prog 49 1 = some (1, ⟨(.int .i64), 1, 8, (.int .i64 0)⟩) := fdAt_mk Tryz.underlying49 rfl ty3
theorem fd51_0 : fdAt Tryz.prog 51 0 = some (0, ⟨(.int .i64), 1, 8, (.int .i64 0)⟩) := fdAt_mk Tryz.underlying51 rfl ty3
theorem fd51_1 : fdAt Tryz.prog 51 1 = some (1, ⟨(.int .i64), 1, 8, (.int .i64 0)⟩) := fdAt_mk Tryz.underlying51 rfl ty3
theorem fd51_2 : fdAt Tryz.prog 51 2 = some (2, ⟨.string, 1, 16, (.string ⟨#[]⟩)⟩) := fdAt_mk Tryz.underlying51 rfl ty9
theorem fd51_3 : fdAt Tryz.prog 51 3 = some (3, ⟨(.slice 2), 1, 24, (.slice none 0 0)⟩) := fdAt_mk Tryz.underlying51 rfl ty47
theorem fd51_4 : fdAt Tryz.prog 51 4 = some (4, ⟨(.int .i64), 1, 8, (.int .i64 0)⟩) := fdAt_mk Tryz.underlying51 rfl ty3
theorem fd51_5 : fdAt Tryz.prog 51 5 = some (5, ⟨(.int .i64), 1, 8, (.int .i64 0)⟩) := fdAt_mk Tryz.underlying51 rfl ty3
theorem fd51_6 : fdAt Tryz.prog 51 6 = some (6, ⟨(.struct #[{ name := "At", type := 3, offset := 0, embedded := false, tag := "", pkgPath := "", byteOffset := 0 }, { name := "Gen", type := 3, offset := 1, embedded := false, tag := "", pkgPath := "", byteOffset := 8 }]), 2, 16, (.agg #[(.int .i64 0), (.int .i64 0)])⟩) := fdAt_mk Tryz.underlying51 rfl ty49
theorem fd71_0 : fdAt Tryz.prog 71 0 = some (0, ⟨(.int .i64), 1, 8, (.int .i64 0)⟩) := fdAt_mk Tryz.underlying71 rfl ty3
theorem fd71_1 : fdAt Tryz.prog 71 1 = some (1, ⟨.string, 1, 16, (.string ⟨#[]⟩)⟩) := fdAt_mk Tryz.underlying71 rfl ty9
theorem fd71_2 : fdAt Tryz.prog 71 2 = some (2, ⟨(.int .i64), 1, 8, (.int .i64 0)⟩) := fdAt_mk Tryz.underlying71 rfl ty2
theorem fd71_3 : fdAt Tryz.prog 71 3 = some (3, ⟨(.int .i64), 1, 8, (.int .i64 0)⟩) := fdAt_mk Tryz.underlying71 rfl ty3
theorem fd76_0 : fdAt Tryz.prog 76 0 = some (0, ⟨.string, 1, 16, (.string ⟨#[]⟩)⟩) := fdAt_mk Tryz.underlying76 rfl ty9
theorem fd76_1 : fdAt Tryz.prog 76 1 = some (1, ⟨(.int .i64), 1, 8, (.int .i64 0)⟩) := fdAt_mk Tryz.underlying76 rfl ty3
theorem fd89_0 : fdAt Tryz.prog 89 0 = some (0, ⟨(.pointer 115), 1, 8, (.pointer none)⟩) := fdAt_mk Tryz.underlying89 rfl ty82
theorem fd89_1 : fdAt Tryz.prog 89 1 = some (1, ⟨(.slice 3), 1, 24, (.slice none 0 0)⟩) := fdAt_mk Tryz.underlying89 rfl ty86
theorem fd89_2 : fdAt Tryz.prog 89 2 = some (2, ⟨(.slice 49), 1, 24, (.slice none 0 0)⟩) := fdAt_mk Tryz.underlying89 rfl ty87
theorem fd99_0 : fdAt Tryz.prog 99 0 = some (0, ⟨(.slice 141), 1, 24, (.slice none 0 0)⟩) := fdAt_mk Tryz.underlying99 rfl ty96
theorem fd99_1 : fdAt Tryz.prog 99 1 = some (1, ⟨(.slice 152), 1, 24, (.slice none 0 0)⟩) := fdAt_mk Tryz.underlying99 rfl ty97
theorem fd107_0 : fdAt Tryz.prog 107 0 = some (0, ⟨(.slice 143), 1, 24, (.slice none 0 0)⟩) := fdAt_mk Tryz.underlying107 rfl ty102
theorem fd107_1 : fdAt Tryz.prog 107 1 = some (1, ⟨(.slice 117), 1, 24, (.slice none 0 0)⟩) := fdAt_mk Tryz.underlying107 rfl ty103
theorem fd107_2 : fdAt Tryz.prog 107 2 = some (2, ⟨(.slice 175), 1, 24, (.slice none 0 0)⟩) := fdAt_mk Tryz.underlying107 rfl ty104
theorem fd107_3 : fdAt Tryz.prog 107 3 = some (3, ⟨(.slice 212), 1, 24, (.slice none 0 0)⟩) := fdAt_mk Tryz.underlying107 rfl ty105
theorem fd115_0 : fdAt Tryz.prog 115 0 = some (0, ⟨(.pointer 162), 1, 8, (.pointer none)⟩) := fdAt_mk Tryz.underlying115 rfl ty110
theorem fd115_1 : fdAt Tryz.prog 115 1 = some (1, ⟨(.map 9 3), 1, 8, (.map none)⟩) := fdAt_mk Tryz.underlying115 rfl ty113
theorem fd115_2 : fdAt Tryz.prog 115 2 = some (2, ⟨(.int .i64), 1, 8, (.int .i64 0)⟩) := fdAt_mk Tryz.underlying115 rfl ty3
theorem fd115_3 : fdAt Tryz.prog 115 3 = some (3, ⟨.bool, 1, 1, (.bool false)⟩) := fdAt_mk Tryz.underlying115 rfl ty4
theorem fd117_0 : fdAt Tryz.prog 117 0 = some (0, ⟨.string, 1, 16, (.string ⟨#[]⟩)⟩) := fdAt_mk Tryz.underlying117 rfl ty9
theorem fd117_1 : fdAt Tryz.prog 117 1 = some (1, ⟨(.int .i64), 1, 8, (.int .i64 0)⟩) := fdAt_mk Tryz.underlying117 rfl ty3
theorem fd122_0 : fdAt Tryz.prog 122 0 = some (0, ⟨(.int .i64), 1, 8, (.int .i64 0)⟩) := fdAt_mk Tryz.underlying122 rfl ty3
theorem fd122_1 : fdAt Tryz.prog 122 1 = some (1, ⟨(.int .i64), 1, 8, (.int .i64 0)⟩) := fdAt_mk Tryz.underlying122 rfl ty27
theorem fd122_2 : fdAt Tryz.prog 122 2 = some (2, ⟨(.struct #[{ name := "Kind", type := 3, offset := 0, embedded := false, tag := "", pkgPath := "", byteOffset := 0 }, { name := "Name", type := 9, offset := 1, embedded := false, tag := "", pkgPath := "", byteOffset := 8 }, { name := "N", type := 2, offset := 2, embedded := false, tag := "", pkgPath := "", byteOffset := 24 }, { name := "Kids", type := 33, offset := 3, embedded := false, tag := "", pkgPath := "", byteOffset := 32 }]), 4, 56, (.agg #[(.int .i64 0), (.string ⟨#[]⟩), (.int .i64 0), (.slice none 0 0)])⟩) := fdAt_mk Tryz.underlying122 rfl ty35
theorem fd130_0 : fdAt Tryz.prog 130 0 = some (0, ⟨(.int .i64), 1, 8, (.int .i64 0)⟩) := fdAt_mk Tryz.underlying130 rfl ty3
theorem fd130_1 : fdAt Tryz.prog 130 1 = some (1, ⟨(.int .i64), 1, 8, (.int .i64 0)⟩) := fdAt_mk Tryz.underlying130 rfl ty27
theorem fd133_0 : fdAt Tryz.prog 133 0 = some (0, ⟨(.slice 71), 1, 24, (.slice none 0 0)⟩) := fdAt_mk Tryz.underlying133 rfl ty72
theorem fd133_1 : fdAt Tryz.prog 133 1 = some (1, ⟨(.int .i64), 1, 8, (.int .i64 0)⟩) := fdAt_mk Tryz.underlying133 rfl ty3
theorem fd133_2 : fdAt Tryz.prog 133 2 = some (2, ⟨(.int .i64), 1, 8, (.int .i64 0)⟩) := fdAt_mk Tryz.underlying133 rfl ty3
theorem fd133_3 : fdAt Tryz.prog 133 3 = some (3, ⟨(.int .i64), 1, 8, (.int .i64 0)⟩) := fdAt_mk Tryz.underlying133 rfl ty3
theorem fd139_0 : fdAt Tryz.prog 139 0 = some (0, ⟨(.struct #[{ name := "Cons", type := 102, offset := 0, embedded := false, tag := "", pkgPath := "", byteOffset := 0 }, { name := "Globals", type := 103, offset := 1, embedded := false, tag := "", pkgPath := "", byteOffset := 24 }, { name := "Infos", type := 104, offset := 2, embedded := false, tag := "", pkgPath := "", byteOffset := 48 }, { name := "Insns", type := 105, offset := 3, embedded := false, tag := "", pkgPath := "", byteOffset := 72 }]), 4, 96, (.agg #[(.slice none 0 0), (.slice none 0 0), (.slice none 0 0), (.slice none 0 0)])⟩) := fdAt_mk Tryz.underlying139 rfl ty107
theorem fd139_1 : fdAt Tryz.prog 139 1 = some (4, ⟨(.map 9 3), 1, 8, (.map none)⟩) := fdAt_mk Tryz.underlying139 rfl ty113
theorem fd139_2 : fdAt Tryz.prog 139 2 = some (5, ⟨(.map 9 3), 1, 8, (.map none)⟩) := fdAt_mk Tryz.underlying139 rfl ty113
theorem fd139_3 : fdAt Tryz.prog 139 3 = some (6, ⟨(.slice 1), 1, 24, (.slice none 0 0)⟩) := fdAt_mk Tryz.underlying139 rfl ty137
theorem fd139_4 : fdAt Tryz.prog 139 4 = some (7, ⟨.bool, 1, 1, (.bool false)⟩) := fdAt_mk Tryz.underlying139 rfl ty4
theorem fd141_0 : fdAt Tryz.prog 141 0 = some (0, ⟨.string, 1, 16, (.string ⟨#[]⟩)⟩) := fdAt_mk Tryz.underlying141 rfl ty9
theorem fd141_1 : fdAt Tryz.prog 141 1 = some (1, ⟨(.int .i64), 1, 8, (.int .i64 0)⟩) := fdAt_mk Tryz.underlying141 rfl ty3
theorem fd141_2 : fdAt Tryz.prog 141 2 = some (2, ⟨(.int .i64), 1, 8, (.int .i64 0)⟩) := fdAt_mk Tryz.underlying141 rfl ty3
theorem fd143_0 : fdAt Tryz.prog 143 0 = some (0, ⟨.string, 1, 16, (.string ⟨#[]⟩)⟩) := fdAt_mk Tryz.underlying143 rfl ty9
theorem fd143_1 : fdAt Tryz.prog 143 1 = some (1, ⟨(.int .i64), 1, 8, (.int .i64 0)⟩) := fdAt_mk Tryz.underlying143 rfl ty3
theorem fd148_0 : fdAt Tryz.prog 148 0 = some (0, ⟨(.int .i64), 1, 8, (.int .i64 0)⟩) := fdAt_mk Tryz.underlying148 rfl ty3
theorem fd148_1 : fdAt Tryz.prog 148 1 = some (1, ⟨(.int .i64), 1, 8, (.int .i64 0)⟩) := fdAt_mk Tryz.underlying148 rfl ty3
theorem fd148_2 : fdAt Tryz.prog 148 2 = some (2, ⟨.string, 1, 16, (.string ⟨#[]⟩)⟩) := fdAt_mk Tryz.underlying148 rfl ty9
theorem fd148_3 : fdAt Tryz.prog 148 3 = some (3, ⟨(.int .i64), 1, 8, (.int .i64 0)⟩) := fdAt_mk Tryz.underlying148 rfl ty2
theorem fd148_4 : fdAt Tryz.prog 148 4 = some (4, ⟨(.slice 312), 1, 24, (.slice none 0 0)⟩) := fdAt_mk Tryz.underlying148 rfl ty144
theorem fd148_5 : fdAt Tryz.prog 148 5 = some (5, ⟨(.slice 152), 1, 24, (.slice none 0 0)⟩) := fdAt_mk Tryz.underlying148 rfl ty97
theorem fd148_6 : fdAt Tryz.prog 148 6 = some (6, ⟨(.slice 148), 1, 24, (.slice none 0 0)⟩) := fdAt_mk Tryz.underlying148 rfl ty145
theorem fd148_7 : fdAt Tryz.prog 148 7 = some (7, ⟨(.slice 327), 1, 24, (.slice none 0 0)⟩) := fdAt_mk Tryz.underlying148 rfl ty146
theorem fd150_0 : fdAt Tryz.prog 150 0 = some (0, ⟨(.slice 9), 1, 24, (.slice none 0 0)⟩) := fdAt_mk Tryz.underlying150 rfl ty42
theorem fd150_1 : fdAt Tryz.prog 150 1 = some (1, ⟨(.struct #[{ name := "Kind", type := 3, offset := 0, embedded := false, tag := "", pkgPath := "", byteOffset := 0 }, { name := "At", type := 3, offset := 1, embedded := false, tag := "", pkgPath := "", byteOffset := 8 }, { name := "Name", type := 9, offset := 2, embedded := false, tag := "", pkgPath := "", byteOffset := 16 }, { name := "N", type := 2, offset := 3, embedded := false, tag := "", pkgPath := "", byteOffset := 32 }, { name := "Atoms", type := 144, offset := 4, embedded := false, tag := "", pkgPath := "", byteOffset := 40 }, { name := "Binds", type := 97, offset := 5, embedded := false, tag := "", pkgPath := "", byteOffset := 64 }, { name := "Kids", type := 145, offset := 6, embedded := false, tag := "", pkgPath := "", byteOffset := 88 }, { name := "Alts", type := 146, offset := 7, embedded := false, tag := "", pkgPath := "", byteOffset := 112 }]), 8, 136, (.agg #[(.int .i64 0), (.int .i64 0), (.string ⟨#[]⟩), (.int .i64 0), (.slice none 0 0), (.slice none 0 0), (.slice none 0 0), (.slice none 0 0)])⟩) := fdAt_mk Tryz.underlying150 rfl ty148
theorem fd152_0 : fdAt Tryz.prog 152 0 = some (0, ⟨.string, 1, 16, (.string ⟨#[]⟩)⟩) := fdAt_mk Tryz.underlying152 rfl ty9
theorem fd152_1 : fdAt Tryz.prog 152 1 = some (1, ⟨(.int .i64), 1, 8, (.int .i64 0)⟩) := fdAt_mk Tryz.underlying152 rfl ty3
theorem fd152_2 : fdAt Tryz.prog 152 2 = some (2, ⟨(.struct #[{ name := "Args", type := 42, offset := 0, embedded := false, tag := "", pkgPath := "", byteOffset := 0 }, { name := "Body", type := 148, offset := 1, embedded := false, tag := "", pkgPath := "", byteOffset := 24 }]), 9, 160, (.agg #[(.slice none 0 0), (.int .i64 0), (.int .i64 0), (.string ⟨#[]⟩), (.int .i64 0), (.slice none 0 0), (.slice none 0 0), (.slice none 0 0), (.slice none 0 0)])⟩) := fdAt_mk Tryz.underlying152 rfl ty150
theorem fd162_0 : fdAt Tryz.prog 162 0 = some (0, ⟨(.struct #[{ name := "Cons", type := 102, offset := 0, embedded := false, tag := "", pkgPath := "", byteOffset := 0 }, { name := "Globals", type := 103, offset := 1, embedded := false, tag := "", pkgPath := "", byteOffset := 24 }, { name := "Infos", type := 104, offset := 2, embedded := false, tag := "", pkgPath := "", byteOffset := 48 }, { name := "Insns", type := 105, offset := 3, embedded := false, tag := "", pkgPath := "", byteOffset := 72 }]), 4, 96, (.agg #[(.slice none 0 0), (.slice none 0 0), (.slice none 0 0), (.slice none 0 0)])⟩) := fdAt_mk Tryz.underlying162 rfl ty107
theorem fd162_1 : fdAt Tryz.prog 162 1 = some (4, ⟨(.pointer 223), 1, 8, (.pointer none)⟩) := fdAt_mk Tryz.underlying162 rfl ty155
theorem fd162_2 : fdAt Tryz.prog 162 2 = some (5, ⟨(.pointer 234), 1, 8, (.pointer none)⟩) := fdAt_mk Tryz.underlying162 rfl ty158
theorem fd162_3 : fdAt Tryz.prog 162 3 = some (6, ⟨(.pointer 237), 1, 8, (.pointer none)⟩) := fdAt_mk Tryz.underlying162 rfl ty159
theorem fd162_4 : fdAt Tryz.prog 162 4 = some (7, ⟨(.slice 3), 1, 24, (.slice none 0 0)⟩) := fdAt_mk Tryz.underlying162 rfl ty86
theorem fd162_5 : fdAt Tryz.prog 162 5 = some (8, ⟨(.slice 2), 1, 24, (.slice none 0 0)⟩) := fdAt_mk Tryz.underlying162 rfl ty47
theorem fd162_6 : fdAt Tryz.prog 162 6 = some (9, ⟨(.int .i64), 1, 8, (.int .i64 0)⟩) := fdAt_mk Tryz.underlying162 rfl ty3
theorem fd162_7 : fdAt Tryz.prog 162 7 = some (10, ⟨.bool, 1, 1, (.bool false)⟩) := fdAt_mk Tryz.underlying162 rfl ty4
theorem fd162_8 : fdAt Tryz.prog 162 8 = some (11, ⟨(.int .i64), 1, 8, (.int .i64 0)⟩) := fdAt_mk Tryz.underlying162 rfl ty3
theorem fd162_9 : fdAt Tryz.prog 162 9 = some (12, ⟨(.int .i64), 1, 8, (.int .i64 0)⟩) := fdAt_mk Tryz.underlying162 rfl ty3
theorem fd162_10 : fdAt Tryz.prog 162 10 = some (13, ⟨(.int .i64), 1, 8, (.int .i64 0)⟩) := fdAt_mk Tryz.underlying162 rfl ty3
theorem fd162_11 : fdAt Tryz.prog 162 11 = some (14, ⟨(.int .i64), 1, 8, (.int .i64 0)⟩) := fdAt_mk Tryz.underlying162 rfl ty3
theorem fd162_12 : fdAt Tryz.prog 162 12 = some (15, ⟨(.slice 3), 1, 24, (.slice none 0 0)⟩) := fdAt_mk Tryz.underlying162 rfl ty86
theorem fd162_13 : fdAt Tryz.prog 162 13 = some (16, ⟨(.int .i64), 1, 8, (.int .i64 0)⟩) := fdAt_mk Tryz.underlying162 rfl ty3
theorem fd162_14 : fdAt Tryz.prog 162 14 = some (17, ⟨(.slice 3), 1, 24, (.slice none 0 0)⟩) := fdAt_mk Tryz.underlying162 rfl ty86
theorem fd162_15 : fdAt Tryz.prog 162 15 = some (18, ⟨(.int .i64), 1, 8, (.int .i64 0)⟩) := fdAt_mk Tryz.underlying162 rfl ty3
theorem fd162_16 : fdAt Tryz.prog 162 16 = some (19, ⟨(.int .i64), 1, 8, (.int .i64 0)⟩) := fdAt_mk Tryz.underlying162 rfl ty3
theorem fd162_17 : fdAt Tryz.prog 162 17 = some (20, ⟨(.slice 341), 1, 24, (.slice none 0 0)⟩) := fdAt_mk Tryz.underlying162 rfl ty160
theorem fd162_18 : fdAt Tryz.prog 162 18 = some (21, ⟨(.struct #[{ name := "Kind", type := 3, offset := 0, embedded := false, tag := "", pkgPath := "", byteOffset := 0 }, { name := "Err", type := 27, offset := 1, embedded := false, tag := "", pkgPath := "", byteOffset := 8 }, { name := "Tree", type := 35, offset := 2, embedded := false, tag := "", pkgPath := "", byteOffset := 16 }]), 6, 72, (.agg #[(.int .i64 0), (.int .i64 0), (.int .i64 0), (.string ⟨#[]⟩), (.int .i64 0), (.slice none 0 0)])⟩) := fdAt_mk Tryz.underlying162 rfl ty122
theorem fd162_19 : fdAt Tryz.prog 162 19 = some (27, ⟨.bool, 1, 1, (.bool false)⟩) := fdAt_mk Tryz.underlying162 rfl ty4
theorem fd171_0 : fdAt Tryz.prog 171 0 = some (0, ⟨(.int .i64), 1, 8, (.int .i64 0)⟩) := fdAt_mk Tryz.underlying171 rfl ty3
theorem fd171_1 : fdAt Tryz.prog 171 1 = some (1, ⟨(.int .i64), 1, 8, (.int .i64 0)⟩) := fdAt_mk Tryz.underlying171 rfl ty3
theorem fd171_2 : fdAt Tryz.prog 171 2 = some (2, ⟨(.int .i64), 1, 8, (.int .i64 0)⟩) := fdAt_mk Tryz.underlying171 rfl ty3
theorem fd171_3 : fdAt Tryz.prog 171 3 = some (3, ⟨(.int .i64), 1, 8, (.int .i64 0)⟩) := fdAt_mk Tryz.underlying171 rfl ty3
theorem fd175_0 : fdAt Tryz.prog 175 0 = some (0, ⟨(.int .i64), 1, 8, (.int .i64 0)⟩) := fdAt_mk Tryz.underlying175 rfl ty3
theorem fd175_1 : fdAt Tryz.prog 175 1 = some (1, ⟨(.int .i64), 1, 8, (.int .i64 0)⟩) := fdAt_mk Tryz.underlying175 rfl ty3
theorem fd175_2 : fdAt Tryz.prog 175 2 = some (2, ⟨(.int .i64), 1, 8, (.int .i64 0)⟩) := fdAt_mk Tryz.underlying175 rfl ty3
theorem fd175_3 : fdAt Tryz.prog 175 3 = some (3, ⟨(.int .i64), 1, 8, (.int .i64 0)⟩) := fdAt_mk Tryz.underlying175 rfl ty3
theorem fd177_0 : fdAt Tryz.prog 177 0 = some (0, ⟨(.int .i64), 1, 8, (.int .i64 0)⟩) := fdAt_mk Tryz.underlying177 rfl ty3
theorem fd177_1 : fdAt Tryz.prog 177 1 = some (1, ⟨(.int .i64), 1, 8, (.int .i64 0)⟩) := fdAt_mk Tryz.underlying177 rfl ty3
theorem fd177_2 : fdAt Tryz.prog 177 2 = some (2, ⟨(.int .i64), 1, 8, (.int .i64 0)⟩) := fdAt_mk Tryz.underlying177 rfl ty2
theorem fd177_3 : fdAt Tryz.prog 177 3 = some (3, ⟨(.slice 3), 1, 24, (.slice none 0 0)⟩) := fdAt_mk Tryz.underlying177 rfl ty86
theorem fd197_0 : fdAt Tryz.prog 197 0 = some (0, ⟨(.map 9 3), 1, 8, (.map none)⟩) := fdAt_mk Tryz.underlying197 rfl ty113
theorem fd197_1 : fdAt Tryz.prog 197 1 = some (1, ⟨(.pointer 205), 1, 8, (.pointer none)⟩) := fdAt_mk Tryz.underlying197 rfl ty195
theorem fd201_0 : fdAt Tryz.prog 201 0 = some (0, ⟨(.map 9 3), 1, 8, (.map none)⟩) := fdAt_mk Tryz.underlying201 rfl ty113
theorem fd201_1 : fdAt Tryz.prog 201 1 = some (1, ⟨(.pointer 201), 1, 8, (.pointer none)⟩) := fdAt_mk Tryz.underlying201 rfl ty198
theorem fd205_0 : fdAt Tryz.prog 205 0 = some (0, ⟨(.int .i64), 1, 8, (.int .i64 0)⟩) := fdAt_mk Tryz.underlying205 rfl ty3
theorem fd205_1 : fdAt Tryz.prog 205 1 = some (1, ⟨(.int .i64), 1, 8, (.int .i64 0)⟩) := fdAt_mk Tryz.underlying205 rfl ty27
theorem fd212_0 : fdAt Tryz.prog 212 0 = some (0, ⟨(.int .i64), 1, 8, (.int .i64 0)⟩) := fdAt_mk Tryz.underlying212 rfl ty3
theorem fd212_1 : fdAt Tryz.prog 212 1 = some (1, ⟨(.int .i64), 1, 8, (.int .i64 0)⟩) := fdAt_mk Tryz.underlying212 rfl ty3
theorem fd212_2 : fdAt Tryz.prog 212 2 = some (2, ⟨(.int .i64), 1, 8, (.int .i64 0)⟩) := fdAt_mk Tryz.underlying212 rfl ty3
theorem fd212_3 : fdAt Tryz.prog 212 3 = some (3, ⟨(.slice 3), 1, 24, (.slice none 0 0)⟩) := fdAt_mk Tryz.underlying212 rfl ty86
theorem fd212_4 : fdAt Tryz.prog 212 4 = some (4, ⟨(.slice 3), 1, 24, (.slice none 0 0)⟩) := fdAt_mk Tryz.underlying212 rfl ty86
theorem fd212_5 : fdAt Tryz.prog 212 5 = some (5, ⟨(.slice 177), 1, 24, (.slice none 0 0)⟩) := fdAt_mk Tryz.underlying212 rfl ty209
theorem fd212_6 : fdAt Tryz.prog 212 6 = some (6, ⟨(.slice 329), 1, 24, (.slice none 0 0)⟩) := fdAt_mk Tryz.underlying212 rfl ty210
theorem fd214_0 : fdAt Tryz.prog 214 0 = some (0, ⟨(.struct #[{ name := "Cons", type := 102, offset := 0, embedded := false, tag := "", pkgPath := "", byteOffset := 0 }, { name := "Globals", type := 103, offset := 1, embedded := false, tag := "", pkgPath := "", byteOffset := 24 }, { name := "Infos", type := 104, offset := 2, embedded := false, tag := "", pkgPath := "", byteOffset := 48 }, { name := "Insns", type := 105, offset := 3, embedded := false, tag := "", pkgPath := "", byteOffset := 72 }]), 4, 96, (.agg #[(.slice none 0 0), (.slice none 0 0), (.slice none 0 0), (.slice none 0 0)])⟩) := fdAt_mk Tryz.underlying214 rfl ty107
theorem fd214_1 : fdAt Tryz.prog 214 1 = some (4, ⟨(.struct #[{ name := "Op", type := 3, offset := 0, embedded := false, tag := "", pkgPath := "", byteOffset := 0 }, { name := "A", type := 3, offset := 1, embedded := false, tag := "", pkgPath := "", byteOffset := 8 }, { name := "B", type := 3, offset := 2, embedded := false, tag := "", pkgPath := "", byteOffset := 16 }, { name := "List", type := 86, offset := 3, embedded := false, tag := "", pkgPath := "", byteOffset := 24 }, { name := "Keep", type := 86, offset := 4, embedded := false, tag := "", pkgPath := "", byteOffset := 48 }, { name := "Makes", type := 209, offset := 5, embedded := false, tag := "", pkgPath := "", byteOffset := 72 }, { name := "Arms", type := 210, offset := 6, embedded := false, tag := "", pkgPath := "", byteOffset := 96 }]), 7, 120, (.agg #[(.int .i64 0), (.int .i64 0), (.int .i64 0), (.slice none 0 0), (.slice none 0 0), (.slice none 0 0), (.slice none 0 0)])⟩) := fdAt_mk Tryz.underlying214 rfl ty212
theorem fd214_2 : fdAt Tryz.prog 214 2 = some (11, ⟨(.int .i64), 1, 8, (.int .i64 0)⟩) := fdAt_mk Tryz.underlying214 rfl ty3
theorem fd223_0 : fdAt Tryz.prog 223 0 = some (0, ⟨(.struct #[{ name := "Gens", type := 3, offset := 0, embedded := false, tag := "", pkgPath := "", byteOffset := 0 }, { name := "Steps", type := 3, offset := 1, embedded := false, tag := "", pkgPath := "", byteOffset := 8 }, { name := "Blocks", type := 3, offset := 2, embedded := false, tag := "", pkgPath := "", byteOffset := 16 }, { name := "Nursery", type := 3, offset := 3, embedded := false, tag := "", pkgPath := "", byteOffset := 24 }, { name := "Hops", type := 3, offset := 4, embedded := false, tag := "", pkgPath := "", byteOffset := 32 }]), 5, 40, (.agg #[(.int .i64 0), (.int .i64 0), (.int .i64 0), (.int .i64 0), (.int .i64 0)])⟩) := fdAt_mk Tryz.underlying223 rfl ty23
theorem fd223_1 : fdAt Tryz.prog 223 1 = some (5, ⟨(.pointer 265), 1, 8, (.pointer none)⟩) := fdAt_mk Tryz.underlying223 rfl ty218
theorem fd223_2 : fdAt Tryz.prog 223 2 = some (6, ⟨(.pointer 231), 1, 8, (.pointer none)⟩) := fdAt_mk Tryz.underlying223 rfl ty163
theorem fd223_3 : fdAt Tryz.prog 223 3 = some (7, ⟨(.slice 221), 1, 24, (.slice none 0 0)⟩) := fdAt_mk Tryz.underlying223 rfl ty219
theorem fd223_4 : fdAt Tryz.prog 223 4 = some (8, ⟨(.map 3 244), 1, 8, (.map none)⟩) := fdAt_mk Tryz.underlying223 rfl ty217
theorem fd223_5 : fdAt Tryz.prog 223 5 = some (9, ⟨(.pointer 268), 1, 8, (.pointer none)⟩) := fdAt_mk Tryz.underlying223 rfl ty220
theorem fd223_6 : fdAt Tryz.prog 223 6 = some (10, ⟨.bool, 1, 1, (.bool false)⟩) := fdAt_mk Tryz.underlying223 rfl ty4
theorem fd223_7 : fdAt Tryz.prog 223 7 = some (11, ⟨.bool, 1, 1, (.bool false)⟩) := fdAt_mk Tryz.underlying223 rfl ty4
theorem fd223_8 : fdAt Tryz.prog 223 8 = some (12, ⟨(.map 3 244), 1, 8, (.map none)⟩) := fdAt_mk Tryz.underlying223 rfl ty217
theorem fd223_9 : fdAt Tryz.prog 223 9 = some (13, ⟨(.slice 273), 1, 24, (.slice none 0 0)⟩) := fdAt_mk Tryz.underlying223 rfl ty221
theorem fd223_10 : fdAt Tryz.prog 223 10 = some (14, ⟨(.slice 3), 1, 24, (.slice none 0 0)⟩) := fdAt_mk Tryz.underlying223 rfl ty86
theorem fd223_11 : fdAt Tryz.prog 223 11 = some (15, ⟨(.int .i64), 1, 8, (.int .i64 0)⟩) := fdAt_mk Tryz.underlying223 rfl ty3
theorem fd231_0 : fdAt Tryz.prog 231 0 = some (0, ⟨(.slice 128), 1, 24, (.slice none 0 0)⟩) := fdAt_mk Tryz.underlying231 rfl ty179
theorem fd234_0 : fdAt Tryz.prog 234 0 = some (0, ⟨(.pointer 231), 1, 8, (.pointer none)⟩) := fdAt_mk Tryz.underlying234 rfl ty163
theorem fd234_1 : fdAt Tryz.prog 234 1 = some (1, ⟨(.int .i64), 1, 8, (.int .i64 0)⟩) := fdAt_mk Tryz.underlying234 rfl ty3
theorem fd234_2 : fdAt Tryz.prog 234 2 = some (2, ⟨(.int .i64), 1, 8, (.int .i64 0)⟩) := fdAt_mk Tryz.underlying234 rfl ty3
theorem fd234_3 : fdAt Tryz.prog 234 3 = some (3, ⟨(.int .i64), 1, 8, (.int .i64 0)⟩) := fdAt_mk Tryz.underlying234 rfl ty3
theorem fd234_4 : fdAt Tryz.prog 234 4 = some (4, ⟨(.int .i64), 1, 8, (.int .i64 0)⟩) := fdAt_mk Tryz.underlying234 rfl ty3
theorem fd237_0 : fdAt Tryz.prog 237 0 = some (0, ⟨(.slice 239), 1, 24, (.slice none 0 0)⟩) := fdAt_mk Tryz.underlying237 rfl ty235
theorem fd239_0 : fdAt Tryz.prog 239 0 = some (0, ⟨(.int .i64), 1, 8, (.int .i64 0)⟩) := fdAt_mk Tryz.underlying239 rfl ty3
theorem fd239_1 : fdAt Tryz.prog 239 1 = some (1, ⟨(.int .i64), 1, 8, (.int .i64 0)⟩) := fdAt_mk Tryz.underlying239 rfl ty3
theorem fd244_0 : fdAt Tryz.prog 244 0 = some (0, ⟨(.int .i64), 1, 8, (.int .i64 0)⟩) := fdAt_mk Tryz.underlying244 rfl ty3
theorem fd244_1 : fdAt Tryz.prog 244 1 = some (1, ⟨(.int .i64), 1, 8, (.int .i64 0)⟩) := fdAt_mk Tryz.underlying244 rfl ty3
theorem fd265_0 : fdAt Tryz.prog 265 0 = some (0, ⟨(.slice 3), 1, 24, (.slice none 0 0)⟩) := fdAt_mk Tryz.underlying265 rfl ty86
theorem fd265_1 : fdAt Tryz.prog 265 1 = some (1, ⟨(.slice 3), 1, 24, (.slice none 0 0)⟩) := fdAt_mk Tryz.underlying265 rfl ty86
theorem fd268_0 : fdAt Tryz.prog 268 0 = some (0, ⟨(.slice 269), 1, 24, (.slice none 0 0)⟩) := fdAt_mk Tryz.underlying268 rfl ty266
theorem fd277_0 : fdAt Tryz.prog 277 0 = some (0, ⟨(.int .i64), 1, 8, (.int .i64 0)⟩) := fdAt_mk Tryz.underlying277 rfl ty3
theorem fd277_1 : fdAt Tryz.prog 277 1 = some (1, ⟨(.int .i64), 1, 8, (.int .i64 0)⟩) := fdAt_mk Tryz.underlying277 rfl ty3
theorem fd277_2 : fdAt Tryz.prog 277 2 = some (2, ⟨(.int .i64), 1, 8, (.int .i64 0)⟩) := fdAt_mk Tryz.underlying277 rfl ty3
theorem fd277_3 : fdAt Tryz.prog 277 3 = some (3, ⟨.bool, 1, 1, (.bool false)⟩) := fdAt_mk Tryz.underlying277 rfl ty4
theorem fd277_4 : fdAt Tryz.prog 277 4 = some (4, ⟨.bool, 1, 1, (.bool false)⟩) := fdAt_mk Tryz.underlying277 rfl ty4
theorem fd294_0 : fdAt Tryz.prog 294 0 = some (0, ⟨(.int .i64), 1, 8, (.int .i64 0)⟩) := fdAt_mk Tryz.underlying294 rfl ty3
theorem fd294_1 : fdAt Tryz.prog 294 1 = some (1, ⟨(.int .i64), 1, 8, (.int .i64 0)⟩) := fdAt_mk Tryz.underlying294 rfl ty3
theorem fd294_2 : fdAt Tryz.prog 294 2 = some (2, ⟨(.int .i64), 1, 8, (.int .i64 0)⟩) := fdAt_mk Tryz.underlying294 rfl ty3
theorem fd294_3 : fdAt Tryz.prog 294 3 = some (3, ⟨(.slice 3), 1, 24, (.slice none 0 0)⟩) := fdAt_mk Tryz.underlying294 rfl ty86
theorem fd312_0 : fdAt Tryz.prog 312 0 = some (0, ⟨.string, 1, 16, (.string ⟨#[]⟩)⟩) := fdAt_mk Tryz.underlying312 rfl ty9
theorem fd312_1 : fdAt Tryz.prog 312 1 = some (1, ⟨(.int .i64), 1, 8, (.int .i64 0)⟩) := fdAt_mk Tryz.underlying312 rfl ty2
theorem fd315_0 : fdAt Tryz.prog 315 0 = some (0, ⟨.string, 1, 16, (.string ⟨#[]⟩)⟩) := fdAt_mk Tryz.underlying315 rfl ty9
theorem fd315_1 : fdAt Tryz.prog 315 1 = some (1, ⟨(.int .i64), 1, 8, (.int .i64 0)⟩) := fdAt_mk Tryz.underlying315 rfl ty3
theorem fd315_2 : fdAt Tryz.prog 315 2 = some (2, ⟨(.array 3 3), 3, 24, (.agg #[(.int .i64 0), (.int .i64 0), (.int .i64 0)])⟩) := fdAt_mk Tryz.underlying315 rfl ty313
theorem fd327_0 : fdAt Tryz.prog 327 0 = some (0, ⟨(.int .i64), 1, 8, (.int .i64 0)⟩) := fdAt_mk Tryz.underlying327 rfl ty3
theorem fd327_1 : fdAt Tryz.prog 327 1 = some (1, ⟨(.int .i64), 1, 8, (.int .i64 0)⟩) := fdAt_mk Tryz.underlying327 rfl ty3
theorem fd327_2 : fdAt Tryz.prog 327 2 = some (2, ⟨.string, 1, 16, (.string ⟨#[]⟩)⟩) := fdAt_mk Tryz.underlying327 rfl ty9
theorem fd327_3 : fdAt Tryz.prog 327 3 = some (3, ⟨(.int .i64), 1, 8, (.int .i64 0)⟩) := fdAt_mk Tryz.underlying327 rfl ty2
theorem fd327_4 : fdAt Tryz.prog 327 4 = some (4, ⟨(.slice 9), 1, 24, (.slice none 0 0)⟩) := fdAt_mk Tryz.underlying327 rfl ty42
theorem fd327_5 : fdAt Tryz.prog 327 5 = some (5, ⟨(.struct #[{ name := "Kind", type := 3, offset := 0, embedded := false, tag := "", pkgPath := "", byteOffset := 0 }, { name := "At", type := 3, offset := 1, embedded := false, tag := "", pkgPath := "", byteOffset := 8 }, { name := "Name", type := 9, offset := 2, embedded := false, tag := "", pkgPath := "", byteOffset := 16 }, { name := "N", type := 2, offset := 3, embedded := false, tag := "", pkgPath := "", byteOffset := 32 }, { name := "Atoms", type := 144, offset := 4, embedded := false, tag := "", pkgPath := "", byteOffset := 40 }, { name := "Binds", type := 97, offset := 5, embedded := false, tag := "", pkgPath := "", byteOffset := 64 }, { name := "Kids", type := 145, offset := 6, embedded := false, tag := "", pkgPath := "", byteOffset := 88 }, { name := "Alts", type := 146, offset := 7, embedded := false, tag := "", pkgPath := "", byteOffset := 112 }]), 8, 136, (.agg #[(.int .i64 0), (.int .i64 0), (.string ⟨#[]⟩), (.int .i64 0), (.slice none 0 0), (.slice none 0 0), (.slice none 0 0), (.slice none 0 0)])⟩) := fdAt_mk Tryz.underlying327 rfl ty148
theorem fd329_0 : fdAt Tryz.prog 329 0 = some (0, ⟨(.int .i64), 1, 8, (.int .i64 0)⟩) := fdAt_mk Tryz.underlying329 rfl ty3
theorem fd329_1 : fdAt Tryz.prog 329 1 = some (1, ⟨(.int .i64), 1, 8, (.int .i64 0)⟩) := fdAt_mk Tryz.underlying329 rfl ty3
theorem fd329_2 : fdAt Tryz.prog 329 2 = some (2, ⟨(.int .i64), 1, 8, (.int .i64 0)⟩) := fdAt_mk Tryz.underlying329 rfl ty2
theorem fd329_3 : fdAt Tryz.prog 329 3 = some (3, ⟨(.int .i64), 1, 8, (.int .i64 0)⟩) := fdAt_mk Tryz.underlying329 rfl ty3
theorem fd334_0 : fdAt Tryz.prog 334 0 = some (0, ⟨(.pointer 265), 1, 8, (.pointer none)⟩) := fdAt_mk Tryz.underlying334 rfl ty218
theorem fd334_1 : fdAt Tryz.prog 334 1 = some (1, ⟨(.pointer 231), 1, 8, (.pointer none)⟩) := fdAt_mk Tryz.underlying334 rfl ty163
theorem fd334_2 : fdAt Tryz.prog 334 2 = some (2, ⟨(.slice 3), 1, 24, (.slice none 0 0)⟩) := fdAt_mk Tryz.underlying334 rfl ty86
theorem fd334_3 : fdAt Tryz.prog 334 3 = some (3, ⟨(.int .i64), 1, 8, (.int .i64 0)⟩) := fdAt_mk Tryz.underlying334 rfl ty3
theorem fd334_4 : fdAt Tryz.prog 334 4 = some (4, ⟨(.slice 3), 1, 24, (.slice none 0 0)⟩) := fdAt_mk Tryz.underlying334 rfl ty86
theorem fd334_5 : fdAt Tryz.prog 334 5 = some (5, ⟨(.slice 3), 1, 24, (.slice none 0 0)⟩) := fdAt_mk Tryz.underlying334 rfl ty86
theorem fd334_6 : fdAt Tryz.prog 334 6 = some (6, ⟨(.map 3 3), 1, 8, (.map none)⟩) := fdAt_mk Tryz.underlying334 rfl ty269
theorem fd334_7 : fdAt Tryz.prog 334 7 = some (7, ⟨(.int .i64), 1, 8, (.int .i64 0)⟩) := fdAt_mk Tryz.underlying334 rfl ty3
theorem fd334_8 : fdAt Tryz.prog 334 8 = some (8, ⟨(.int .i64), 1, 8, (.int .i64 0)⟩) := fdAt_mk Tryz.underlying334 rfl ty3
theorem fd334_9 : fdAt Tryz.prog 334 9 = some (9, ⟨(.int .i64), 1, 8, (.int .i64 0)⟩) := fdAt_mk Tryz.underlying334 rfl ty3
theorem fd340_0 : fdAt Tryz.prog 340 0 = some (0, ⟨(.pointer 223), 1, 8, (.pointer none)⟩) := fdAt_mk Tryz.underlying340 rfl ty155
theorem fd340_1 : fdAt Tryz.prog 340 1 = some (1, ⟨(.int .i64), 1, 8, (.int .i64 0)⟩) := fdAt_mk Tryz.underlying340 rfl ty27
theorem fd343_0 : fdAt Tryz.prog 343 0 = some (0, ⟨(.int .i64), 1, 8, (.int .i64 0)⟩) := fdAt_mk Tryz.underlying343 rfl ty3
theorem fd343_1 : fdAt Tryz.prog 343 1 = some (1, ⟨(.int .i64), 1, 8, (.int .i64 0)⟩) := fdAt_mk Tryz.underlying343 rfl ty3
theorem fd343_2 : fdAt Tryz.prog 343 2 = some (2, ⟨(.int .i64), 1, 8, (.int .i64 0)⟩) := fdAt_mk Tryz.underlying343 rfl ty3
theorem fd343_3 : fdAt Tryz.prog 343 3 = some (3, ⟨(.int .i64), 1, 8, (.int .i64 0)⟩) := fdAt_mk Tryz.underlying343 rfl ty3
theorem fd343_4 : fdAt Tryz.prog 343 4 = some (4, ⟨(.struct #[{ name := "Kind", type := 3, offset := 0, embedded := false, tag := "", pkgPath := "", byteOffset := 0 }, { name := "Name", type := 9, offset := 1, embedded := false, tag := "", pkgPath := "", byteOffset := 8 }, { name := "N", type := 2, offset := 2, embedded := false, tag := "", pkgPath := "", byteOffset := 24 }, { name := "Kids", type := 33, offset := 3, embedded := false, tag := "", pkgPath := "", byteOffset := 32 }]), 4, 56, (.agg #[(.int .i64 0), (.string ⟨#[]⟩), (.int .i64 0), (.slice none 0 0)])⟩) := fdAt_mk Tryz.underlying343 rfl ty35
theorem fd382_0 : fdAt Tryz.prog 382 0 = some (0, ⟨(.int .i64), 1, 8, (.int .i64 0)⟩) := fdAt_mk Tryz.underlying382 rfl ty3
theorem fd382_1 : fdAt Tryz.prog 382 1 = some (1, ⟨(.int .i64), 1, 8, (.int .i64 0)⟩) := fdAt_mk Tryz.underlying382 rfl ty3
theorem fd382_2 : fdAt Tryz.prog 382 2 = some (2, ⟨(.int .i64), 1, 8, (.int .i64 0)⟩) := fdAt_mk Tryz.underlying382 rfl ty3
theorem fd382_3 : fdAt Tryz.prog 382 3 = some (3, ⟨(.int .i64), 1, 8, (.int .i64 0)⟩) := fdAt_mk Tryz.underlying382 rfl ty3
theorem fd382_4 : fdAt Tryz.prog 382 4 = some (4, ⟨(.int .i64), 1, 8, (.int .i64 0)⟩) := fdAt_mk Tryz.underlying382 rfl ty3
theorem fd423_0 : fdAt Tryz.prog 423 0 = some (0, ⟨(.int .u64), 1, 8, (.int .u64 0)⟩) := fdAt_mk Tryz.underlying423 rfl ty12
theorem fd423_1 : fdAt Tryz.prog 423 1 = some (1, ⟨(.int .u64), 1, 8, (.int .u64 0)⟩) := fdAt_mk Tryz.underlying423 rfl ty12
theorem fd423_2 : fdAt Tryz.prog 423 2 = some (2, ⟨(.int .u32), 1, 4, (.int .u32 0)⟩) := fdAt_mk Tryz.underlying423 rfl ty399
theorem fd423_3 : fdAt Tryz.prog 423 3 = some (3, ⟨(.int .u8), 1, 1, (.int .u8 0)⟩) := fdAt_mk Tryz.underlying423 rfl ty416
theorem fd423_4 : fdAt Tryz.prog 423 4 = some (4, ⟨(.int .u8), 1, 1, (.int .u8 0)⟩) := fdAt_mk Tryz.underlying423 rfl ty5
theorem fd423_5 : fdAt Tryz.prog 423 5 = some (5, ⟨(.int .u8), 1, 1, (.int .u8 0)⟩) := fdAt_mk Tryz.underlying423 rfl ty5
theorem fd423_6 : fdAt Tryz.prog 423 6 = some (6, ⟨(.int .u8), 1, 1, (.int .u8 0)⟩) := fdAt_mk Tryz.underlying423 rfl ty417
theorem fd423_7 : fdAt Tryz.prog 423 7 = some (7, ⟨(.func #[424, 424] #[4] false), 1, 8, .nilFunc⟩) := fdAt_mk Tryz.underlying423 rfl ty418
theorem fd423_8 : fdAt Tryz.prog 423 8 = some (8, ⟨(.pointer 5), 1, 8, (.pointer none)⟩) := fdAt_mk Tryz.underlying423 rfl ty419
theorem fd423_9 : fdAt Tryz.prog 423 9 = some (9, ⟨(.int .i32), 1, 4, (.int .i32 0)⟩) := fdAt_mk Tryz.underlying423 rfl ty420
theorem fd423_10 : fdAt Tryz.prog 423 10 = some (10, ⟨(.int .i32), 1, 4, (.int .i32 0)⟩) := fdAt_mk Tryz.underlying423 rfl ty421
attribute [push_cast] ty1 ty2 ty3 ty4 ty5 ty6 ty9 ty10 ty11 ty12 ty15 ty16 ty17 ty20 ty21 ty23 ty24 ty26 ty27 ty29 ty30 ty31 ty32 ty33 ty35 ty36 ty37 ty39 ty40 ty41 ty42 ty43 ty44 ty46 ty47 ty49 ty51 ty53 ty55 ty56 ty58 ty59 ty60 ty61 ty62 ty63 ty64 ty65 ty67 ty68 ty69 ty71 ty72 ty74 ty76 ty77 ty79 ty81 ty82 ty84 ty85 ty86 ty87 ty89 ty90 ty91 ty92 ty93 ty94 ty95 ty96 ty97 ty99 ty101 ty102 ty103 ty104 ty105 ty107 ty109 ty110 ty112 ty113 ty115 ty117 ty119 ty120 ty122 ty124 ty125 ty126 ty127 ty128 ty130 ty131 ty133 ty134 ty135 ty136 ty137 ty139 ty141 ty143 ty144 ty145 ty146 ty148 ty150 ty152 ty153 ty154 ty155 ty157 ty158 ty159 ty160 ty162 ty163 ty165 ty167 ty169 ty171 ty173 ty175 ty177 ty178 ty179 ty180 ty182 ty183 ty184 ty185 ty187 ty189 ty190 ty191 ty192 ty193 ty194 ty195 ty197 ty198 ty199 ty201 ty202 ty203 ty205 ty206 ty207 ty208 ty209 ty210 ty212 ty214 ty215 ty216 ty217 ty218 ty219 ty220 ty221 ty223 ty225 ty227 ty228 ty229 ty231 ty232 ty234 ty235 ty237 ty239 ty240 ty241 ty242 ty244 ty245 ty246 ty248 ty249 ty250 ty251 ty252 ty253 ty254 ty255 ty256 ty257 ty258 ty259 ty260 ty261 ty262 ty263 ty265 ty266 ty268 ty269 ty270 ty271 ty272 ty273 ty275 ty277 ty279 ty281 ty282 ty283 ty284 ty285 ty286 ty288 ty289 ty290 ty291 ty292 ty294 ty295 ty296 ty297 ty298 ty300 ty301 ty302 ty303 ty305 ty306 ty307 ty308 ty309 ty310 ty312 ty313 ty315 ty316 ty317 ty318 ty320 ty321 ty322 ty323 ty324 ty325 ty327 ty329 ty330 ty331 ty332 ty334 ty335 ty336 ty337 ty338 ty340 ty341 ty343 ty344 ty345 ty346 ty347 ty348 ty349 ty350 ty351 ty352 ty353 ty354 ty355 ty356 ty357 ty359 ty360 ty361 ty362 ty363 ty364 ty365 ty366 ty367 ty368 ty370 ty371 ty372 ty373 ty374 ty375 ty376 ty377 ty378 ty379 ty380 ty382 ty384 ty385 ty386 ty387 ty388 ty389 ty390 ty391 ty392 ty394 ty395 ty396 ty397 ty398 ty399 ty400 ty401 ty402 ty403 ty404 ty405 ty406 ty407 ty409 ty410 ty413 ty416 ty417 ty418 ty419 ty420 ty421 ty423 fd23_0 fd23_1 fd23_2 fd23_3 fd23_4 fd26_0 fd26_1 fd26_2 fd26_3 fd35_0 fd35_1 fd35_2 fd35_3 fd49_0 fd49_1 fd51_0 fd51_1 fd51_2 fd51_3 fd51_4 fd51_5 fd51_6 fd71_0 fd71_1 fd71_2 fd71_3 fd76_0 fd76_1 fd89_0 fd89_1 fd89_2 fd99_0 fd99_1 fd107_0 fd107_1 fd107_2 fd107_3 fd115_0 fd115_1 fd115_2 fd115_3 fd117_0 fd117_1 fd122_0 fd122_1 fd122_2 fd130_0 fd130_1 fd133_0 fd133_1 fd133_2 fd133_3 fd139_0 fd139_1 fd139_2 fd139_3 fd139_4 fd141_0 fd141_1 fd141_2 fd143_0 fd143_1 fd148_0 fd148_1 fd148_2 fd148_3 fd148_4 fd148_5 fd148_6 fd148_7 fd150_0 fd150_1 fd152_0 fd152_1 fd152_2 fd162_0 fd162_1 fd162_2 fd162_3 fd162_4 fd162_5 fd162_6 fd162_7 fd162_8 fd162_9 fd162_10 fd162_11 fd162_12 fd162_13 fd162_14 fd162_15 fd162_16 fd162_17 fd162_18 fd162_19 fd171_0 fd171_1 fd171_2 fd171_3 fd175_0 fd175_1 fd175_2 fd175_3 fd177_0 fd177_1 fd177_2 fd177_3 fd197_0 fd197_1 fd201_0 fd201_1 fd205_0 fd205_1 fd212_0 fd212_1 fd212_2 fd212_3 fd212_4 fd212_5 fd212_6 fd214_0 fd214_1 fd214_2 fd223_0 fd223_1 fd223_2 fd223_3 fd223_4 fd223_5 fd223_6 fd223_7 fd223_8 fd223_9 fd223_10 fd223_11 fd231_0 fd234_0 fd234_1 fd234_2 fd234_3 fd234_4 fd237_0 fd239_0 fd239_1 fd244_0 fd244_1 fd265_0 fd265_1 fd268_0 fd277_0 fd277_1 fd277_2 fd277_3 fd277_4 fd294_0 fd294_1 fd294_2 fd294_3 fd312_0 fd312_1 fd315_0 fd315_1 fd315_2 fd327_0 fd327_1 fd327_2 fd327_3 fd327_4 fd327_5 fd329_0 fd329_1 fd329_2 fd329_3 fd334_0 fd334_1 fd334_2 fd334_3 fd334_4 fd334_5 fd334_6 fd334_7 fd334_8 fd334_9 fd340_0 fd340_1 fd343_0 fd343_1 fd343_2 fd343_3 fd343_4 fd382_0 fd382_1 fd382_2 fd382_3 fd382_4 fd423_0 fd423_1 fd423_2 fd423_3 fd423_4 fd423_5 fd423_6 fd423_7 fd423_8 fd423_9 fd423_10
end Go.Proofs.YtmiekonofocboaaGreatDoor.T
