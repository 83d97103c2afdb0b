/- What the program's table says of its types: facts for the engine. Written by genty.py out of the translation. -/
import Derived.Test.YtmiekonofocboaaGreatDoorEB
import Derived.Test.YtmiekonofocboaaGreatDoorProg
import Derived.KernelRfl
namespace Go.Proofs.YtmiekonofocboaaGreatDoor.T
open Go Go.Eng Go.Proofs
theorem ty2 : ty Tryz.prog 2 = some ⟨(.int .i64), 1, 8, (.int .i64 0)⟩ := ty_mk Tryz.underlying2 (by kernel_rfl)
theorem ty3 : ty Tryz.prog 3 = some ⟨(.int .i64), 1, 8, (.int .i64 0)⟩ := ty_mk Tryz.underlying3 (by kernel_rfl)
theorem ty4 : ty Tryz.prog 4 = some ⟨.bool, 1, 1, (.bool false)⟩ := ty_mk Tryz.underlying4 (by kernel_rfl)
theorem ty5 : ty Tryz.prog 5 = some ⟨(.int .u8), 1, 1, (.int .u8 0)⟩ := ty_mk Tryz.underlying5 (by kernel_rfl)
theorem ty6 : ty Tryz.prog 6 = some ⟨(.int .u8), 1, 1, (.int .u8 0)⟩ := ty_mk Tryz.underlying6 (by kernel_rfl)
theorem ty9 : ty Tryz.prog 9 = some ⟨.string, 1, 16, (.string ⟨#[]⟩)⟩ := ty_mk Tryz.underlying9 (by kernel_rfl)
theorem ty21 : ty Tryz.prog 21 = some ⟨(.int .i32), 1, 4, (.int .i32 0)⟩ := ty_mk Tryz.underlying21 (by kernel_rfl)
theorem ty23 : ty Tryz.prog 23 = some ⟨(.struct #[{ name := "Gens", type := 3, offset := 0, embedded := false, tag := "", pkgPath := "", byteOffset := 0 }, { name := "Steps", type := 3, offset := 1, embedded := false, tag := "", pkgPath := "", byteOffset := 8 }, { name := "Blocks", type := 3, offset := 2, embedded := false, tag := "", pkgPath := "", byteOffset := 16 }, { name := "Nursery", type := 3, offset := 3, embedded := false, tag := "", pkgPath := "", byteOffset := 24 }, { name := "Hops", type := 3, offset := 4, embedded := false, tag := "", pkgPath := "", byteOffset := 32 }]), 5, 40, (.agg #[(.int .i64 0), (.int .i64 0), (.int .i64 0), (.int .i64 0), (.int .i64 0)])⟩ := ty_mk Tryz.underlying23 (by kernel_rfl)
theorem ty24 : ty Tryz.prog 24 = some ⟨(.slice 51), 1, 24, (.slice none 0 0)⟩ := ty_mk Tryz.underlying24 (by kernel_rfl)
theorem ty26 : ty Tryz.prog 26 = some ⟨(.struct #[{ name := "K", type := 23, offset := 0, embedded := false, tag := "", pkgPath := "", byteOffset := 0 }, { name := "Words", type := 3, offset := 5, embedded := false, tag := "", pkgPath := "", byteOffset := 40 }, { name := "Text", type := 9, offset := 6, embedded := false, tag := "", pkgPath := "", byteOffset := 48 }, { name := "Lines", type := 24, offset := 7, embedded := false, tag := "", pkgPath := "", byteOffset := 64 }]), 8, 88, (.agg #[(.int .i64 0), (.int .i64 0), (.int .i64 0), (.int .i64 0), (.int .i64 0), (.int .i64 0), (.string ⟨#[]⟩), (.slice none 0 0)])⟩ := ty_mk Tryz.underlying26 (by kernel_rfl)
theorem ty27 : ty Tryz.prog 27 = some ⟨(.int .i64), 1, 8, (.int .i64 0)⟩ := ty_mk Tryz.underlying27 (by kernel_rfl)
theorem ty42 : ty Tryz.prog 42 = some ⟨(.slice 9), 1, 24, (.slice none 0 0)⟩ := ty_mk Tryz.underlying42 (by kernel_rfl)
theorem ty44 : ty Tryz.prog 44 = some ⟨(.slice 5), 1, 24, (.slice none 0 0)⟩ := ty_mk Tryz.underlying44 (by kernel_rfl)
theorem ty47 : ty Tryz.prog 47 = some ⟨(.slice 2), 1, 24, (.slice none 0 0)⟩ := ty_mk Tryz.underlying47 (by kernel_rfl)
theorem ty49 : ty Tryz.prog 49 = some ⟨(.struct #[{ name := "At", type := 3, offset := 0, embedded := false, tag := "", pkgPath := "", byteOffset := 0 }, { name := "Gen", type := 3, offset := 1, embedded := false, tag := "", pkgPath := "", byteOffset := 8 }]), 2, 16, (.agg #[(.int .i64 0), (.int .i64 0)])⟩ := ty_mk Tryz.underlying49 (by kernel_rfl)
theorem ty51 : ty Tryz.prog 51 = some ⟨(.struct #[{ name := "Kind", type := 3, offset := 0, embedded := false, tag := "", pkgPath := "", byteOffset := 0 }, { name := "N", type := 3, offset := 1, embedded := false, tag := "", pkgPath := "", byteOffset := 8 }, { name := "Name", type := 9, offset := 2, embedded := false, tag := "", pkgPath := "", byteOffset := 16 }, { name := "With", type := 47, offset := 3, embedded := false, tag := "", pkgPath := "", byteOffset := 32 }, { name := "Depth", type := 3, offset := 4, embedded := false, tag := "", pkgPath := "", byteOffset := 56 }, { name := "Fuel", type := 3, offset := 5, embedded := false, tag := "", pkgPath := "", byteOffset := 64 }, { name := "Point", type := 49, offset := 6, embedded := false, tag := "", pkgPath := "", byteOffset := 72 }]), 8, 88, (.agg #[(.int .i64 0), (.int .i64 0), (.string ⟨#[]⟩), (.slice none 0 0), (.int .i64 0), (.int .i64 0), (.int .i64 0), (.int .i64 0)])⟩ := ty_mk Tryz.underlying51 (by kernel_rfl)
theorem ty71 : ty Tryz.prog 71 = some ⟨(.struct #[{ name := "Kind", type := 3, offset := 0, embedded := false, tag := "", pkgPath := "", byteOffset := 0 }, { name := "Text", type := 9, offset := 1, embedded := false, tag := "", pkgPath := "", byteOffset := 8 }, { name := "N", type := 2, offset := 2, embedded := false, tag := "", pkgPath := "", byteOffset := 24 }, { name := "At", type := 3, offset := 3, embedded := false, tag := "", pkgPath := "", byteOffset := 32 }]), 4, 40, (.agg #[(.int .i64 0), (.string ⟨#[]⟩), (.int .i64 0), (.int .i64 0)])⟩ := ty_mk Tryz.underlying71 (by kernel_rfl)
theorem ty72 : ty Tryz.prog 72 = some ⟨(.slice 71), 1, 24, (.slice none 0 0)⟩ := ty_mk Tryz.underlying72 (by kernel_rfl)
theorem ty74 : ty Tryz.prog 74 = some ⟨(.pointer 76), 1, 8, (.pointer none)⟩ := ty_mk Tryz.underlying74 (by kernel_rfl)
theorem ty76 : ty Tryz.prog 76 = some ⟨(.struct #[{ name := "s", type := 9, offset := 0, embedded := false, tag := "", pkgPath := "midden/lex", byteOffset := 0 }, { name := "at", type := 3, offset := 1, embedded := false, tag := "", pkgPath := "midden/lex", byteOffset := 16 }]), 2, 24, (.agg #[(.string ⟨#[]⟩), (.int .i64 0)])⟩ := ty_mk Tryz.underlying76 (by kernel_rfl)
theorem ty93 : ty Tryz.prog 93 = some ⟨(.func #[5] #[4] false), 1, 8, .nilFunc⟩ := ty_mk Tryz.underlying93 (by kernel_rfl)
theorem ty128 : ty Tryz.prog 128 = some ⟨(.int .u64), 1, 8, (.int .u64 0)⟩ := ty_mk Tryz.underlying128 (by kernel_rfl)
theorem fd23_0 : fdAt Tryz.prog 23 0 = some (0, ⟨(.int .i64), 1, 8, (.int .i64 0)⟩) := fdAt_mk Tryz.underlying23 rfl ty3
theorem fd23_1 : fdAt Tryz.prog 23 1 = some (1, ⟨(.int .i64), 1, 8, (.int .i64 0)⟩) := fdAt_mk Tryz.underlying23 rfl ty3
theorem fd23_2 : fdAt Tryz.prog 23 2 = some (2, ⟨(.int .i64), 1, 8, (.int .i64 0)⟩) := fdAt_mk Tryz.underlying23 rfl ty3
theorem fd23_3 : fdAt Tryz.prog 23 3 = some (3, ⟨(.int .i64), 1, 8, (.int .i64 0)⟩) := fdAt_mk Tryz.underlying23 rfl ty3
theorem fd23_4 : fdAt Tryz.prog 23 4 = some (4, ⟨(.int .i64), 1, 8, (.int .i64 0)⟩) := fdAt_mk Tryz.underlying23 rfl ty3
theorem fd26_0 : fdAt Tryz.prog 26 0 = some (0, ⟨(.struct #[{ name := "Gens", type := 3, offset := 0, embedded := false, tag := "", pkgPath := "", byteOffset := 0 }, { name := "Steps", type := 3, offset := 1, embedded := false, tag := "", pkgPath := "", byteOffset := 8 }, { name := "Blocks", type := 3, offset := 2, embedded := false, tag := "", pkgPath := "", byteOffset := 16 }, { name := "Nursery", type := 3, offset := 3, embedded := false, tag := "", pkgPath := "", byteOffset := 24 }, { name := "Hops", type := 3, offset := 4, embedded := false, tag := "", pkgPath := "", byteOffset := 32 }]), 5, 40, (.agg #[(.int .i64 0), (.int .i64 0), (.int .i64 0), (.int .i64 0), (.int .i64 0)])⟩) := fdAt_mk Tryz.underlying26 rfl ty23
theorem fd26_1 : fdAt Tryz.prog 26 1 = some (5, ⟨(.int .i64), 1, 8, (.int .i64 0)⟩) := fdAt_mk Tryz.underlying26 rfl ty3
theorem fd26_2 : fdAt Tryz.prog 26 2 = some (6, ⟨.string, 1, 16, (.string ⟨#[]⟩)⟩) := fdAt_mk Tryz.underlying26 rfl ty9
theorem fd26_3 : fdAt Tryz.prog 26 3 = some (7, ⟨(.slice 51), 1, 24, (.slice none 0 0)⟩) := fdAt_mk Tryz.underlying26 rfl ty24
theorem fd49_0 : fdAt Tryz.prog 49 0 = some (0, ⟨(.int .i64), 1, 8, (.int .i64 0)⟩) := fdAt_mk Tryz.underlying49 rfl ty3
theorem fd49_1 : fdAt Tryz.prog 49 1 = some (1, ⟨(.int .i64), 1, 8, (.int .i64 0)⟩) := fdAt_mk Tryz.underlying49 rfl ty3
theorem fd51_0 : fdAt Tryz.prog 51 0 = some (0, ⟨(.int .i64), 1, 8, (.int .i64 0)⟩) := fdAt_mk Tryz.underlying51 rfl ty3
theorem fd51_1 : fdAt Tryz.prog 51 1 = some (1, ⟨(.int .i64), 1, 8, (.int .i64 0)⟩) := fdAt_mk Tryz.underlying51 rfl ty3
theorem fd51_2 : fdAt Tryz.prog 51 2 = some (2, ⟨.string, 1, 16, (.string ⟨#[]⟩)⟩) := fdAt_mk Tryz.underlying51 rfl ty9
theorem fd51_3 : fdAt Tryz.prog 51 3 = some (3, ⟨(.slice 2), 1, 24, (.slice none 0 0)⟩) := fdAt_mk Tryz.underlying51 rfl ty47
theorem fd51_4 : fdAt Tryz.prog 51 4 = some (4, ⟨(.int .i64), 1, 8, (.int .i64 0)⟩) := fdAt_mk Tryz.underlying51 rfl ty3
theorem fd51_5 : fdAt Tryz.prog 51 5 = some (5, ⟨(.int .i64), 1, 8, (.int .i64 0)⟩) := fdAt_mk Tryz.underlying51 rfl ty3
theorem fd51_6 : fdAt Tryz.prog 51 6 = some (6, ⟨(.struct #[{ name := "At", type := 3, offset := 0, embedded := false, tag := "", pkgPath := "", byteOffset := 0 }, { name := "Gen", type := 3, offset := 1, embedded := false, tag := "", pkgPath := "", byteOffset := 8 }]), 2, 16, (.agg #[(.int .i64 0), (.int .i64 0)])⟩) := fdAt_mk Tryz.underlying51 rfl ty49
theorem fd71_0 : fdAt Tryz.prog 71 0 = some (0, ⟨(.int .i64), 1, 8, (.int .i64 0)⟩) := fdAt_mk Tryz.underlying71 rfl ty3
theorem fd71_1 : fdAt Tryz.prog 71 1 = some (1, ⟨.string, 1, 16, (.string ⟨#[]⟩)⟩) := fdAt_mk Tryz.underlying71 rfl ty9
theorem fd71_2 : fdAt Tryz.prog 71 2 = some (2, ⟨(.int .i64), 1, 8, (.int .i64 0)⟩) := fdAt_mk Tryz.underlying71 rfl ty2
theorem fd71_3 : fdAt Tryz.prog 71 3 = some (3, ⟨(.int .i64), 1, 8, (.int .i64 0)⟩) := fdAt_mk Tryz.underlying71 rfl ty3
theorem fd76_0 : fdAt Tryz.prog 76 0 = some (0, ⟨.string, 1, 16, (.string ⟨#[]⟩)⟩) := fdAt_mk Tryz.underlying76 rfl ty9
theorem fd76_1 : fdAt Tryz.prog 76 1 = some (1, ⟨(.int .i64), 1, 8, (.int .i64 0)⟩) := fdAt_mk Tryz.underlying76 rfl ty3
attribute [push_cast] ty2 ty3 ty4 ty5 ty6 ty9 ty21 ty23 ty24 ty26 ty27 ty42 ty44 ty47 ty49 ty51 ty71 ty72 ty74 ty76 ty93 ty128 fd23_0 fd23_1 fd23_2 fd23_3 fd23_4 fd26_0 fd26_1 fd26_2 fd26_3 fd49_0 fd49_1 fd51_0 fd51_1 fd51_2 fd51_3 fd51_4 fd51_5 fd51_6 fd71_0 fd71_1 fd71_2 fd71_3 fd76_0 fd76_1
end Go.Proofs.YtmiekonofocboaaGreatDoor.T
