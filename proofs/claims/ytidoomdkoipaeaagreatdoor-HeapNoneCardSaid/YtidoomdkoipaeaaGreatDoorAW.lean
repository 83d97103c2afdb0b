/- What the evaluator is told of the functions that midden/middenlaw18.HeapNone reaches: their code by name, and a plan for each region that draws its order. Written by genfd.py out of the translation. -/
import Derived.Test.YtidoomdkoipaeaaGreatDoorF18
import Derived.Test.YtidoomdkoipaeaaGreatDoorProg
import Derived.KernelRfl
set_option maxRecDepth 100000
set_option linter.unusedVariables false
namespace Go.Proofs.YtidoomdkoipaeaaGreatDoor.AW
open Go Go.Eng Go.AM Go.Proofs
-- midden/middenlaw18.HeapNone
noncomputable def d6 : AFd := mkAFd Tryz.f6 [(10, .br (.alt 0 [] (.q 1 (.q 2 (.q 3 (.q 4 (.q 5 (.br (.alt 6 [5] (.q 7 (.q 8 (.q 9 (.q 10 (.q 11 (.q 12 (.q 13 (.q 14 (.q 15 (.q 16 (.q 17 (.q 18 (.q 19 (.q 20 (.q 21 (.q 22 (.q 23 (.q 24 (.q 25 (.q 26 (.q 27 (.q 28 (.q 29 (.q 30 (.q 31 (.q 32 (.q 33 (.q 36 (.q 37 (.q 38 (.q 42 (.q 43 (.q 44 (.q 47 (.q 48 (.q 49 (.q 52 (.br (.alt 34 [36, 37, 38, 42, 43, 44, 47, 48, 49, 52] (.q 35 (.br (.alt 39 [35, 42, 43, 44, 47, 48, 49, 52] (.q 40 (.q 41 (.br (.alt 45 [35, 40, 41, 47, 48, 49, 52] (.q 46 (.br (.alt 50 [35, 40, 41, 46, 52] (.q 51 (.br (.alt 53 [35, 40, 41, 46, 51] (.q 54 (.q 55 (.q 56 (.q 57 (.done))))) (.nil)))) (.nil)))) (.nil))))) (.nil)))) (.nil)))))))))))))))))))))))))))))))))))))))) (.nil)))))))) (.nil)))]
theorem k6 : AFdOk Tryz.prog 6 d6 := AFdOk.mk Tryz.func6 rfl rfl (by kernel_rfl)
-- (*midden/heap.Heap).Lay
noncomputable def d21 : AFd := mkAFd Tryz.f21 []
theorem k21 : AFdOk Tryz.prog 21 d21 := AFdOk.mk Tryz.func21 rfl rfl (by kernel_rfl)
-- (*midden/heap.Heap).Head
noncomputable def d12 : AFd := mkAFd Tryz.f12 []
theorem k12 : AFdOk Tryz.prog 12 d12 := AFdOk.mk Tryz.func12 rfl rfl (by kernel_rfl)
-- (*midden/heap.Heap).Ptr
noncomputable def d13 : AFd := mkAFd Tryz.f13 []
theorem k13 : AFdOk Tryz.prog 13 d13 := AFdOk.mk Tryz.func13 rfl rfl (by kernel_rfl)
-- (*midden/heap.Heap).Non
noncomputable def d18 : AFd := mkAFd Tryz.f18 []
theorem k18 : AFdOk Tryz.prog 18 d18 := AFdOk.mk Tryz.func18 rfl rfl (by kernel_rfl)
-- (*midden/heap.Heap).Where
noncomputable def d22 : AFd := mkAFd Tryz.f22 [(7, .q 0 (.q 1 (.q 2 (.q 3 (.q 4 (.q 5 (.q 6 (.done))))))))]
theorem k22 : AFdOk Tryz.prog 22 d22 := AFdOk.mk Tryz.func22 rfl rfl (by kernel_rfl)
-- (*midden/heap.Heap).Evacuate
noncomputable def d23 : AFd := mkAFd Tryz.f23 [(19, .q 0 (.q 1 (.q 2 (.q 3 (.q 4 (.q 5 (.q 6 (.q 7 (.q 8 (.br (.alt 9 [] (.br (.alt 10 [] (.br (.alt 11 [] (.done) (.nil))) (.nil))) (.nil)))))))))))), (25, .q 0 (.q 1 (.q 2 (.q 3 (.q 4 (.q 5 (.q 6 (.br (.alt 7 [0, 1, 2, 3, 4, 5] (.br (.alt 8 [] (.done) (.nil))) (.nil))))))))))]
theorem k23 : AFdOk Tryz.prog 23 d23 := AFdOk.mk Tryz.func23 rfl rfl (by kernel_rfl)
-- (*midden/heap.Heap).Fresh
noncomputable def d24 : AFd := mkAFd Tryz.f24 [(1, .q 0 (.br (.alt 1 [] (.q 2 (.q 3 (.q 4 (.q 5 (.q 6 (.q 7 (.q 8 (.q 9 (.q 10 (.q 11 (.q 12 (.q 13 (.q 14 (.done)))))))))))))) (.nil)))), (4, .q 0 (.q 1 (.q 2 (.q 3 (.q 4 (.q 5 (.q 6 (.q 7 (.q 8 (.q 9 (.q 10 (.q 11 (.q 12 (.done))))))))))))))]
theorem k24 : AFdOk Tryz.prog 24 d24 := AFdOk.mk Tryz.func24 rfl rfl (by kernel_rfl)
-- (*midden/heap.Heap).Set
noncomputable def d25 : AFd := mkAFd Tryz.f25 []
theorem k25 : AFdOk Tryz.prog 25 d25 := AFdOk.mk Tryz.func25 rfl rfl (by kernel_rfl)
-- (*midden/heap.Heap).Pass
noncomputable def d26 : AFd := mkAFd Tryz.f26 []
theorem k26 : AFdOk Tryz.prog 26 d26 := AFdOk.mk Tryz.func26 rfl rfl (by kernel_rfl)
-- (*midden/heap.Heap).Hole
noncomputable def d27 : AFd := mkAFd Tryz.f27 []
theorem k27 : AFdOk Tryz.prog 27 d27 := AFdOk.mk Tryz.func27 rfl rfl (by kernel_rfl)
-- (*midden/heap.Heap).Fail
noncomputable def d28 : AFd := mkAFd Tryz.f28 []
theorem k28 : AFdOk Tryz.prog 28 d28 := AFdOk.mk Tryz.func28 rfl rfl (by kernel_rfl)
-- (*midden/heap.Heap).Begin
noncomputable def d29 : AFd := mkAFd Tryz.f29 [(11, .q 0 (.q 1 (.q 2 (.q 3 (.q 4 (.q 5 (.br (.alt 6 [] (.done) (.nil))))))))), (16, .q 0 (.q 1 (.q 2 (.q 3 (.q 4 (.q 5 (.q 6 (.q 7 (.q 8 (.q 9 (.q 10 (.q 11 (.br (.alt 12 [0] (.q 13 (.q 14 (.br (.alt 15 [] (.done) (.nil))))) (.nil)))))))))))))))]
theorem k29 : AFdOk Tryz.prog 29 d29 := AFdOk.mk Tryz.func29 rfl rfl (by kernel_rfl)
-- (*midden/heap.Heap).Store
noncomputable def d30 : AFd := mkAFd Tryz.f30 []
theorem k30 : AFdOk Tryz.prog 30 d30 := AFdOk.mk Tryz.func30 rfl rfl (by kernel_rfl)
-- (*midden/heap.Heap).Finish
noncomputable def d31 : AFd := mkAFd Tryz.f31 [(26, .q 0 (.q 1 (.q 2 (.q 3 (.q 4 (.q 5 (.br (.alt 6 [1, 2, 3] (.q 7 (.q 8 (.br (.alt 9 [2, 3] (.q 10 (.q 11 (.br (.alt 12 [3] (.q 13 (.q 14 (.br (.alt 15 [] (.done) (.nil))))) (.nil))))) (.nil))))) (.nil)))))))))]
theorem k31 : AFdOk Tryz.prog 31 d31 := AFdOk.mk Tryz.func31 rfl rfl (by kernel_rfl)
-- midden/middenlaw18.awake
noncomputable def d9 : AFd := mkAFd Tryz.f9 []
theorem k9 : AFdOk Tryz.prog 9 d9 := AFdOk.mk Tryz.func9 rfl rfl (by kernel_rfl)
-- (*midden/heap.Heap).Closures
noncomputable def d32 : AFd := mkAFd Tryz.f32 []
theorem k32 : AFdOk Tryz.prog 32 d32 := AFdOk.mk Tryz.func32 rfl rfl (by kernel_rfl)
-- (*midden/heap.Heap).Old
noncomputable def d15 : AFd := mkAFd Tryz.f15 []
theorem k15 : AFdOk Tryz.prog 15 d15 := AFdOk.mk Tryz.func15 rfl rfl (by kernel_rfl)
-- (*midden/heap.Heap).Used
noncomputable def d20 : AFd := mkAFd Tryz.f20 []
theorem k20 : AFdOk Tryz.prog 20 d20 := AFdOk.mk Tryz.func20 rfl rfl (by kernel_rfl)
-- (*midden/heap.Heap).Blocks
noncomputable def d33 : AFd := mkAFd Tryz.f33 []
theorem k33 : AFdOk Tryz.prog 33 d33 := AFdOk.mk Tryz.func33 rfl rfl (by kernel_rfl)
-- (*midden/heap.Heap).Left
noncomputable def d34 : AFd := mkAFd Tryz.f34 []
theorem k34 : AFdOk Tryz.prog 34 d34 := AFdOk.mk Tryz.func34 rfl rfl (by kernel_rfl)
-- (*midden/heap.Heap).wrong
noncomputable def d60 : AFd := mkAFd Tryz.f60 []
theorem k60 : AFdOk Tryz.prog 60 d60 := AFdOk.mk Tryz.func60 rfl rfl (by kernel_rfl)
-- midden/shape.Right
noncomputable def d61 : AFd := mkAFd Tryz.f61 []
theorem k61 : AFdOk Tryz.prog 61 d61 := AFdOk.mk Tryz.func61 rfl rfl (by kernel_rfl)
-- (*midden/heap.Heap).has
noncomputable def d62 : AFd := mkAFd Tryz.f62 []
theorem k62 : AFdOk Tryz.prog 62 d62 := AFdOk.mk Tryz.func62 rfl rfl (by kernel_rfl)
-- (*midden/heap.Heap).put
noncomputable def d63 : AFd := mkAFd Tryz.f63 [(1, .q 0 (.q 1 (.q 2 (.q 3 (.q 4 (.q 5 (.q 6 (.q 7 (.q 8 (.q 9 (.q 10 (.q 11 (.q 12 (.br (.alt 13 [0, 1, 2, 3, 4, 5, 6, 7, 8, 9, 10, 11] (.br (.alt 14 [] (.q 15 (.q 16 (.q 17 (.q 18 (.q 19 (.done)))))) (.nil))) (.nil)))))))))))))))), (13, .q 0 (.q 1 (.q 2 (.q 3 (.q 4 (.q 5 (.q 6 (.q 7 (.q 8 (.q 9 (.q 10 (.q 11 (.br (.alt 12 [] (.done) (.nil))))))))))))))), (15, .q 0 (.q 1 (.q 2 (.q 3 (.q 4 (.q 5 (.br (.alt 6 [] (.done) (.nil)))))))))]
theorem k63 : AFdOk Tryz.prog 63 d63 := AFdOk.mk Tryz.func63 rfl rfl (by kernel_rfl)
-- (*midden/heap.Heap).see
noncomputable def d52 : AFd := mkAFd Tryz.f52 []
theorem k52 : AFdOk Tryz.prog 52 d52 := AFdOk.mk Tryz.func52 rfl rfl (by kernel_rfl)
-- midden/heap.between
noncomputable def d53 : AFd := mkAFd Tryz.f53 []
theorem k53 : AFdOk Tryz.prog 53 d53 := AFdOk.mk Tryz.func53 rfl rfl (by kernel_rfl)
-- (*midden/heap.Heap).word
noncomputable def d54 : AFd := mkAFd Tryz.f54 []
theorem k54 : AFdOk Tryz.prog 54 d54 := AFdOk.mk Tryz.func54 rfl rfl (by kernel_rfl)
-- midden/word.Moved
noncomputable def d64 : AFd := mkAFd Tryz.f64 []
theorem k64 : AFdOk Tryz.prog 64 d64 := AFdOk.mk Tryz.func64 rfl rfl (by kernel_rfl)
-- (*midden/heap.Heap).space
noncomputable def d65 : AFd := mkAFd Tryz.f65 []
theorem k65 : AFdOk Tryz.prog 65 d65 := AFdOk.mk Tryz.func65 rfl rfl (by kernel_rfl)
-- (*midden/heap.Heap).die
noncomputable def d66 : AFd := mkAFd Tryz.f66 []
theorem k66 : AFdOk Tryz.prog 66 d66 := AFdOk.mk Tryz.func66 rfl rfl (by kernel_rfl)
-- midden/shape.Size
noncomputable def d68 : AFd := mkAFd Tryz.f68 []
theorem k68 : AFdOk Tryz.prog 68 d68 := AFdOk.mk Tryz.func68 rfl rfl (by kernel_rfl)
-- (*midden/arena.Arena).Move
noncomputable def d67 : AFd := mkAFd Tryz.f67 [(8, .q 0 (.q 1 (.q 2 (.q 3 (.q 4 (.q 5 (.q 6 (.q 7 (.q 8 (.q 9 (.q 10 (.q 11 (.q 12 (.q 13 (.q 14 (.q 15 (.q 16 (.q 17 (.br (.alt 18 [] (.done) (.nil)))))))))))))))))))))]
theorem k67 : AFdOk Tryz.prog 67 d67 := AFdOk.mk Tryz.func67 rfl rfl (by kernel_rfl)
-- midden/word.Forward
noncomputable def d69 : AFd := mkAFd Tryz.f69 []
theorem k69 : AFdOk Tryz.prog 69 d69 := AFdOk.mk Tryz.func69 rfl rfl (by kernel_rfl)
-- (*midden/arena.Arena).Write
noncomputable def d70 : AFd := mkAFd Tryz.f70 []
theorem k70 : AFdOk Tryz.prog 70 d70 := AFdOk.mk Tryz.func70 rfl rfl (by kernel_rfl)
-- (*midden/heap.Heap).field
noncomputable def d71 : AFd := mkAFd Tryz.f71 []
theorem k71 : AFdOk Tryz.prog 71 d71 := AFdOk.mk Tryz.func71 rfl rfl (by kernel_rfl)
-- (*midden/heap.Heap).barrier
noncomputable def d72 : AFd := mkAFd Tryz.f72 [(0, .q 0 (.q 1 (.q 2 (.q 3 (.q 4 (.q 5 (.q 6 (.q 7 (.q 8 (.q 9 (.q 10 (.q 11 (.q 12 (.q 13 (.q 14 (.q 15 (.q 16 (.q 17 (.q 18 (.done)))))))))))))))))))), (1, .q 0 (.q 1 (.q 2 (.q 3 (.q 4 (.q 5 (.q 6 (.q 7 (.q 8 (.q 9 (.q 10 (.q 11 (.br (.alt 12 [] (.done) (.nil)))))))))))))))]
theorem k72 : AFdOk Tryz.prog 72 d72 := AFdOk.mk Tryz.func72 rfl rfl (by kernel_rfl)
-- (*midden/heap.Heap).thunk
noncomputable def d73 : AFd := mkAFd Tryz.f73 []
theorem k73 : AFdOk Tryz.prog 73 d73 := AFdOk.mk Tryz.func73 rfl rfl (by kernel_rfl)
-- midden/shape.Thunk
noncomputable def d74 : AFd := mkAFd Tryz.f74 []
theorem k74 : AFdOk Tryz.prog 74 d74 := AFdOk.mk Tryz.func74 rfl rfl (by kernel_rfl)
-- (*midden/heap.Heap).next
noncomputable def d75 : AFd := mkAFd Tryz.f75 []
theorem k75 : AFdOk Tryz.prog 75 d75 := AFdOk.mk Tryz.func75 rfl rfl (by kernel_rfl)
-- (*midden/heap.Heap).over
noncomputable def d76 : AFd := mkAFd Tryz.f76 [(5, .q 0 (.q 1 (.q 2 (.q 3 (.q 4 (.q 5 (.br (.alt 6 [0, 1, 2, 3, 4] (.br (.alt 7 [] (.done) (.nil))) (.nil)))))))))]
theorem k76 : AFdOk Tryz.prog 76 d76 := AFdOk.mk Tryz.func76 rfl rfl (by kernel_rfl)
-- (*midden/heap.Heap).clear
noncomputable def d77 : AFd := mkAFd Tryz.f77 [(6, .q 0 (.q 1 (.q 2 (.q 3 (.q 4 (.q 5 (.q 6 (.q 7 (.br (.alt 8 [] (.q 9 (.q 10 (.q 11 (.q 12 (.q 13 (.done)))))) (.nil))))))))))), (7, .q 0 (.q 1 (.q 2 (.q 3 (.q 4 (.q 5 (.q 6 (.q 7 (.q 8 (.q 9 (.q 10 (.q 11 (.q 12 (.br (.alt 13 [0, 1, 2, 3, 4, 5, 6, 7, 8, 9, 10, 11] (.br (.alt 14 [0, 1, 2, 3, 4] (.q 15 (.br (.alt 16 [] (.done) (.nil)))) (.nil))) (.nil))))))))))))))))]
theorem k77 : AFdOk Tryz.prog 77 d77 := AFdOk.mk Tryz.func77 rfl rfl (by kernel_rfl)
-- (*midden/remember.Lists).Take
noncomputable def d78 : AFd := mkAFd Tryz.f78 []
theorem k78 : AFdOk Tryz.prog 78 d78 := AFdOk.mk Tryz.func78 rfl rfl (by kernel_rfl)
-- midden/shape.Pointers
noncomputable def d79 : AFd := mkAFd Tryz.f79 []
theorem k79 : AFdOk Tryz.prog 79 d79 := AFdOk.mk Tryz.func79 rfl rfl (by kernel_rfl)
-- (*midden/bump.Space).Free
noncomputable def d80 : AFd := mkAFd Tryz.f80 [(8, .q 0 (.q 1 (.q 2 (.q 3 (.q 4 (.q 5 (.q 6 (.q 7 (.q 8 (.br (.alt 9 [0, 1, 2, 3, 4, 5, 6, 7, 8] (.br (.alt 10 [0] (.q 11 (.br (.alt 12 [] (.done) (.nil)))) (.nil))) (.nil))))))))))))]
theorem k80 : AFdOk Tryz.prog 80 d80 := AFdOk.mk Tryz.func80 rfl rfl (by kernel_rfl)
-- midden/heap.New
noncomputable def d38 : AFd := mkAFd Tryz.f38 []
theorem k38 : AFdOk Tryz.prog 38 d38 := AFdOk.mk Tryz.func38 rfl rfl (by kernel_rfl)
-- (*midden/bump.Space).Each
noncomputable def d81 : AFd := mkAFd Tryz.f81 [(3, .q 0 (.q 1 (.q 2 (.q 3 (.q 4 (.q 5 (.q 6 (.q 7 (.q 8 (.q 9 (.q 10 (.q 11 (.q 12 (.q 13 (.q 15 (.q 16 (.q 17 (.q 18 (.q 19 (.q 20 (.q 21 (.q 22 (.q 23 (.q 24 (.q 25 (.q 26 (.q 27 (.q 28 (.br (.alt 14 [15, 16, 17, 18, 19, 20, 21, 22, 23, 24, 25, 26, 27, 28] (.br (.alt 29 [0, 1, 2, 3, 4, 5, 6, 7, 8, 9, 10, 11, 12, 13] (.br (.alt 30 [15, 16, 17, 18, 19, 20, 21, 22, 23, 24, 25, 26, 27, 28] (.br (.alt 31 [] (.done) (.nil))) (.nil))) (.alt 30 [15, 16, 17, 18, 19, 20, 21, 22, 23, 24, 25, 26, 27, 28] (.br (.alt 29 [0, 1, 2, 3, 4, 5, 6, 7, 8, 9, 10, 11, 12, 13] (.br (.alt 31 [] (.done) (.nil))) (.nil))) (.nil)))) (.alt 29 [0, 1, 2, 3, 4, 5, 6, 7, 8, 9, 10, 11, 12, 13] (.br (.alt 14 [15, 16, 17, 18, 19, 20, 21, 22, 23, 24, 25, 26, 27, 28] (.br (.alt 30 [15, 16, 17, 18, 19, 20, 21, 22, 23, 24, 25, 26, 27, 28] (.br (.alt 31 [] (.done) (.nil))) (.nil))) (.nil))) (.nil))))))))))))))))))))))))))))))))]
theorem k81 : AFdOk Tryz.prog 81 d81 := AFdOk.mk Tryz.func81 rfl rfl (by kernel_rfl)
-- (*midden/heap.Heap).lives
noncomputable def d55 : AFd := mkAFd Tryz.f55 []
theorem k55 : AFdOk Tryz.prog 55 d55 := AFdOk.mk Tryz.func55 rfl rfl (by kernel_rfl)
-- (*midden/remember.Lists).All
noncomputable def d56 : AFd := mkAFd Tryz.f56 []
theorem k56 : AFdOk Tryz.prog 56 d56 := AFdOk.mk Tryz.func56 rfl rfl (by kernel_rfl)
-- (*midden/heap.Heap).sum
noncomputable def d58 : AFd := mkAFd Tryz.f58 []
theorem k58 : AFdOk Tryz.prog 58 d58 := AFdOk.mk Tryz.func58 rfl rfl (by kernel_rfl)
-- (*midden/bump.Space).Used
noncomputable def d59 : AFd := mkAFd Tryz.f59 []
theorem k59 : AFdOk Tryz.prog 59 d59 := AFdOk.mk Tryz.func59 rfl rfl (by kernel_rfl)
-- (*midden/bump.Space).Blocks
noncomputable def d82 : AFd := mkAFd Tryz.f82 []
theorem k82 : AFdOk Tryz.prog 82 d82 := AFdOk.mk Tryz.func82 rfl rfl (by kernel_rfl)
-- (*midden/pool.Pool).Left
noncomputable def d83 : AFd := mkAFd Tryz.f83 []
theorem k83 : AFdOk Tryz.prog 83 d83 := AFdOk.mk Tryz.func83 rfl rfl (by kernel_rfl)
-- midden/shape.of
noncomputable def d117 : AFd := mkAFd Tryz.f117 []
theorem k117 : AFdOk Tryz.prog 117 d117 := AFdOk.mk Tryz.func117 rfl rfl (by kernel_rfl)
-- (*midden/bump.Space).Lay
noncomputable def d118 : AFd := mkAFd Tryz.f118 [(20, .q 0 (.q 1 (.q 2 (.q 3 (.q 4 (.q 5 (.q 6 (.q 9 (.q 10 (.q 11 (.q 12 (.q 13 (.br (.alt 7 [0, 1, 2, 3, 4, 5, 9, 10, 11, 12, 13] (.br (.alt 8 [0, 1, 9, 10, 11, 12, 13] (.br (.alt 14 [0, 1, 2, 3, 4, 5, 6, 9, 10, 11, 12] (.br (.alt 15 [0, 1] (.q 16 (.q 17 (.br (.alt 18 [1] (.q 19 (.q 20 (.br (.alt 21 [] (.done) (.nil))))) (.nil))))) (.nil))) (.nil))) (.alt 14 [0, 1, 2, 3, 4, 5, 6, 9, 10, 11, 12] (.br (.alt 8 [0, 1, 9, 10, 11, 12, 13] (.br (.alt 15 [0, 1] (.q 16 (.q 17 (.br (.alt 18 [1] (.q 19 (.q 20 (.br (.alt 21 [] (.done) (.nil))))) (.nil))))) (.nil))) (.nil))) (.nil)))) (.alt 14 [0, 1, 2, 3, 4, 5, 6, 9, 10, 11, 12] (.br (.alt 7 [0, 1, 2, 3, 4, 5, 9, 10, 11, 12, 13] (.br (.alt 8 [0, 1, 9, 10, 11, 12, 13] (.br (.alt 15 [0, 1] (.q 16 (.q 17 (.br (.alt 18 [1] (.q 19 (.q 20 (.br (.alt 21 [] (.done) (.nil))))) (.nil))))) (.nil))) (.nil))) (.nil))) (.nil))))))))))))))))]
theorem k118 : AFdOk Tryz.prog 118 d118 := AFdOk.mk Tryz.func118 rfl rfl (by kernel_rfl)
-- (*midden/heap.Heap).head
noncomputable def d119 : AFd := mkAFd Tryz.f119 []
theorem k119 : AFdOk Tryz.prog 119 d119 := AFdOk.mk Tryz.func119 rfl rfl (by kernel_rfl)
-- midden/word.Unpack
noncomputable def d111 : AFd := mkAFd Tryz.f111 []
theorem k111 : AFdOk Tryz.prog 111 d111 := AFdOk.mk Tryz.func111 rfl rfl (by kernel_rfl)
-- (*midden/arena.Arena).Read
noncomputable def d112 : AFd := mkAFd Tryz.f112 []
theorem k112 : AFdOk Tryz.prog 112 d112 := AFdOk.mk Tryz.func112 rfl rfl (by kernel_rfl)
-- (*midden/arena.Arena).row
noncomputable def d120 : AFd := mkAFd Tryz.f120 []
theorem k120 : AFdOk Tryz.prog 120 d120 := AFdOk.mk Tryz.func120 rfl rfl (by kernel_rfl)
-- (*midden/arena.Arena).at
noncomputable def d121 : AFd := mkAFd Tryz.f121 []
theorem k121 : AFdOk Tryz.prog 121 d121 := AFdOk.mk Tryz.func121 rfl rfl (by kernel_rfl)
-- (*midden/remember.Lists).Put
noncomputable def d122 : AFd := mkAFd Tryz.f122 []
theorem k122 : AFdOk Tryz.prog 122 d122 := AFdOk.mk Tryz.func122 rfl rfl (by kernel_rfl)
-- midden/shape.Over
noncomputable def d123 : AFd := mkAFd Tryz.f123 []
theorem k123 : AFdOk Tryz.prog 123 d123 := AFdOk.mk Tryz.func123 rfl rfl (by kernel_rfl)
-- (*midden/arena.Arena).Clear
noncomputable def d124 : AFd := mkAFd Tryz.f124 []
theorem k124 : AFdOk Tryz.prog 124 d124 := AFdOk.mk Tryz.func124 rfl rfl (by kernel_rfl)
-- midden/bump.New
noncomputable def d125 : AFd := mkAFd Tryz.f125 []
theorem k125 : AFdOk Tryz.prog 125 d125 := AFdOk.mk Tryz.func125 rfl rfl (by kernel_rfl)
-- midden/shape.Pointers$1
noncomputable def d126 : AFd := mkAFd Tryz.f126 []
theorem k126 : AFdOk Tryz.prog 126 d126 := AFdOk.mk Tryz.func126 rfl rfl (by kernel_rfl)
-- (*midden/pool.Pool).Free
noncomputable def d127 : AFd := mkAFd Tryz.f127 []
theorem k127 : AFdOk Tryz.prog 127 d127 := AFdOk.mk Tryz.func127 rfl rfl (by kernel_rfl)
-- midden/pool.New
noncomputable def d93 : AFd := mkAFd Tryz.f93 [(3, .q 0 (.q 2 (.br (.alt 1 [2] (.br (.alt 3 [0] (.br (.alt 4 [] (.br (.alt 5 [] (.q 6 (.done)) (.nil))) (.nil))) (.nil))) (.alt 3 [0] (.br (.alt 1 [2] (.br (.alt 4 [] (.br (.alt 5 [] (.q 6 (.done)) (.nil))) (.nil))) (.nil))) (.nil))))))]
theorem k93 : AFdOk Tryz.prog 93 d93 := AFdOk.mk Tryz.func93 rfl rfl (by kernel_rfl)
-- midden/arena.New
noncomputable def d94 : AFd := mkAFd Tryz.f94 []
theorem k94 : AFdOk Tryz.prog 94 d94 := AFdOk.mk Tryz.func94 rfl rfl (by kernel_rfl)
-- midden/remember.New
noncomputable def d95 : AFd := mkAFd Tryz.f95 []
theorem k95 : AFdOk Tryz.prog 95 d95 := AFdOk.mk Tryz.func95 rfl rfl (by kernel_rfl)
-- (*midden/pool.Pool).Alloc
noncomputable def d96 : AFd := mkAFd Tryz.f96 [(13, .q 0 (.q 1 (.q 2 (.q 3 (.q 4 (.q 5 (.q 6 (.br (.alt 7 [] (.done) (.nil))))))))))]
theorem k96 : AFdOk Tryz.prog 96 d96 := AFdOk.mk Tryz.func96 rfl rfl (by kernel_rfl)
-- (*midden/bump.Space).Each$1
noncomputable def d128 : AFd := mkAFd Tryz.f128 [(3, .q 0 (.q 1 (.q 2 (.q 3 (.q 4 (.q 5 (.q 6 (.q 7 (.q 8 (.br (.alt 9 [] (.q 10 (.done)) (.nil))))))))))))]
theorem k128 : AFdOk Tryz.prog 128 d128 := AFdOk.mk Tryz.func128 rfl rfl (by kernel_rfl)
-- (*midden/remember.Lists).list
noncomputable def d113 : AFd := mkAFd Tryz.f113 []
theorem k113 : AFdOk Tryz.prog 113 d113 := AFdOk.mk Tryz.func113 rfl rfl (by kernel_rfl)
-- slices.Sort[[]int,int]
noncomputable def d114 : AFd := mkAFd Tryz.f114 []
theorem k114 : AFdOk Tryz.prog 114 d114 := AFdOk.mk Tryz.func114 rfl rfl (by kernel_rfl)
-- (*midden/pool.Pool).Runs
noncomputable def d129 : AFd := mkAFd Tryz.f129 []
theorem k129 : AFdOk Tryz.prog 129 d129 := AFdOk.mk Tryz.func129 rfl rfl (by kernel_rfl)
-- (*midden/bump.Space).take
noncomputable def d141 : AFd := mkAFd Tryz.f141 []
theorem k141 : AFdOk Tryz.prog 141 d141 := AFdOk.mk Tryz.func141 rfl rfl (by kernel_rfl)
-- midden/word.Pack
noncomputable def d142 : AFd := mkAFd Tryz.f142 []
theorem k142 : AFdOk Tryz.prog 142 d142 := AFdOk.mk Tryz.func142 rfl rfl (by kernel_rfl)
-- (*midden/remember.Lists).wrong
noncomputable def d143 : AFd := mkAFd Tryz.f143 []
theorem k143 : AFdOk Tryz.prog 143 d143 := AFdOk.mk Tryz.func143 rfl rfl (by kernel_rfl)
-- (*midden/pool.Pool).runs
noncomputable def d132 : AFd := mkAFd Tryz.f132 []
theorem k132 : AFdOk Tryz.prog 132 d132 := AFdOk.mk Tryz.func132 rfl rfl (by kernel_rfl)
-- math/bits.Len
noncomputable def d140 : AFd := mkAFd Tryz.f140 []
theorem k140 : AFdOk Tryz.prog 140 d140 := AFdOk.mk Tryz.func140 rfl rfl (by kernel_rfl)
-- slices.pdqsortOrdered[int]
noncomputable def d139 : AFd := mkAFd Tryz.f139 [(17, .q 0 (.q 1 (.q 2 (.q 3 (.q 4 (.q 5 (.q 6 (.q 7 (.q 8 (.q 9 (.q 10 (.q 11 (.br (.alt 12 [] (.q 13 (.q 14 (.done))) (.nil)))))))))))))))]
theorem k139 : AFdOk Tryz.prog 139 d139 := AFdOk.mk Tryz.func139 rfl rfl (by kernel_rfl)
-- (*midden/pool.Pool).Runs$1
noncomputable def d144 : AFd := mkAFd Tryz.f144 []
theorem k144 : AFdOk Tryz.prog 144 d144 := AFdOk.mk Tryz.func144 rfl rfl (by kernel_rfl)
-- midden/pool.kept
noncomputable def d145 : AFd := mkAFd Tryz.f145 [(5, .q 0 (.q 1 (.q 4 (.q 5 (.br (.alt 2 [0, 4, 5] (.br (.alt 3 [4, 5] (.br (.alt 6 [0, 1, 4] (.br (.alt 7 [] (.br (.alt 8 [] (.br (.alt 9 [] (.done) (.nil))) (.nil))) (.nil))) (.nil))) (.alt 6 [0, 1, 4] (.br (.alt 3 [4, 5] (.br (.alt 7 [] (.br (.alt 8 [] (.br (.alt 9 [] (.done) (.nil))) (.nil))) (.nil))) (.nil))) (.nil)))) (.alt 6 [0, 1, 4] (.br (.alt 2 [0, 4, 5] (.br (.alt 3 [4, 5] (.br (.alt 7 [] (.br (.alt 8 [] (.br (.alt 9 [] (.done) (.nil))) (.nil))) (.nil))) (.nil))) (.nil))) (.nil))))))))]
theorem k145 : AFdOk Tryz.prog 145 d145 := AFdOk.mk Tryz.func145 rfl rfl (by kernel_rfl)
-- (*midden/arena.Arena).Len
noncomputable def d161 : AFd := mkAFd Tryz.f161 []
theorem k161 : AFdOk Tryz.prog 161 d161 := AFdOk.mk Tryz.func161 rfl rfl (by kernel_rfl)
-- (*midden/pool.Pool).runs$1
noncomputable def d146 : AFd := mkAFd Tryz.f146 [(3, .q 0 (.q 1 (.q 2 (.q 3 (.q 4 (.q 5 (.q 6 (.q 7 (.q 8 (.q 9 (.q 10 (.q 11 (.q 12 (.q 13 (.q 14 (.br (.alt 15 [] (.done) (.nil))))))))))))))))))]
theorem k146 : AFdOk Tryz.prog 146 d146 := AFdOk.mk Tryz.func146 rfl rfl (by kernel_rfl)
-- math/bits.Len32
noncomputable def d159 : AFd := mkAFd Tryz.f159 []
theorem k159 : AFdOk Tryz.prog 159 d159 := AFdOk.mk Tryz.func159 rfl rfl (by kernel_rfl)
-- math/bits.Len64
noncomputable def d160 : AFd := mkAFd Tryz.f160 []
theorem k160 : AFdOk Tryz.prog 160 d160 := AFdOk.mk Tryz.func160 rfl rfl (by kernel_rfl)
-- slices.insertionSortOrdered[int]
noncomputable def d150 : AFd := mkAFd Tryz.f150 [(4, .q 0 (.q 1 (.q 2 (.q 3 (.q 4 (.q 5 (.q 6 (.q 7 (.q 8 (.q 9 (.q 10 (.q 11 (.q 12 (.br (.alt 13 [] (.q 14 (.done)) (.nil)))))))))))))))), (6, .q 0 (.q 1 (.q 2 (.q 3 (.q 4 (.q 5 (.q 6 (.q 7 (.q 8 (.q 9 (.q 10 (.q 11 (.q 12 (.q 13 (.q 14 (.br (.alt 15 [2, 3, 4] (.q 16 (.br (.alt 17 [] (.done) (.nil)))) (.nil))))))))))))))))))]
theorem k150 : AFdOk Tryz.prog 150 d150 := AFdOk.mk Tryz.func150 rfl rfl (by kernel_rfl)
-- slices.heapSortOrdered[int]
noncomputable def d151 : AFd := mkAFd Tryz.f151 [(10, .q 0 (.q 1 (.q 2 (.q 3 (.q 4 (.q 5 (.q 6 (.q 7 (.q 8 (.q 9 (.q 10 (.q 11 (.q 12 (.q 13 (.q 14 (.q 15 (.q 16 (.br (.alt 17 [2, 3, 4, 5] (.q 18 (.br (.alt 19 [] (.done) (.nil)))) (.nil))))))))))))))))))))]
theorem k151 : AFdOk Tryz.prog 151 d151 := AFdOk.mk Tryz.func151 rfl rfl (by kernel_rfl)
-- slices.breakPatternsOrdered[int]
noncomputable def d152 : AFd := mkAFd Tryz.f152 [(10, .q 0 (.q 1 (.q 2 (.q 3 (.q 4 (.q 5 (.q 6 (.q 7 (.q 8 (.q 9 (.q 10 (.q 11 (.q 12 (.q 13 (.q 14 (.q 15 (.q 16 (.br (.alt 17 [2, 3, 4, 5] (.q 18 (.br (.alt 19 [] (.done) (.nil)))) (.nil))))))))))))))))))))]
theorem k152 : AFdOk Tryz.prog 152 d152 := AFdOk.mk Tryz.func152 rfl rfl (by kernel_rfl)
-- slices.choosePivotOrdered[int]
noncomputable def d153 : AFd := mkAFd Tryz.f153 []
theorem k153 : AFdOk Tryz.prog 153 d153 := AFdOk.mk Tryz.func153 rfl rfl (by kernel_rfl)
-- slices.reverseRangeOrdered[int]
noncomputable def d154 : AFd := mkAFd Tryz.f154 [(3, .q 0 (.q 1 (.q 2 (.q 3 (.q 4 (.q 5 (.q 6 (.q 7 (.q 8 (.q 9 (.q 10 (.q 11 (.q 12 (.br (.alt 13 [2, 3] (.q 14 (.br (.alt 15 [] (.done) (.nil)))) (.nil))))))))))))))))]
theorem k154 : AFdOk Tryz.prog 154 d154 := AFdOk.mk Tryz.func154 rfl rfl (by kernel_rfl)
-- slices.partialInsertionSortOrdered[int]
noncomputable def d155 : AFd := mkAFd Tryz.f155 [(5, .q 0 (.q 1 (.q 2 (.q 3 (.q 4 (.q 5 (.q 6 (.q 7 (.q 8 (.q 9 (.q 10 (.q 11 (.q 12 (.br (.alt 13 [] (.q 14 (.q 15 (.done))) (.nil)))))))))))))))), (11, .q 0 (.q 1 (.q 2 (.q 3 (.q 4 (.q 5 (.q 6 (.q 7 (.q 8 (.q 9 (.q 10 (.q 11 (.q 12 (.q 13 (.q 14 (.br (.alt 15 [2, 3, 4] (.q 16 (.br (.alt 17 [] (.done) (.nil)))) (.nil)))))))))))))))))), (16, .q 0 (.q 1 (.q 2 (.q 3 (.q 4 (.q 5 (.q 6 (.q 7 (.q 8 (.br (.alt 9 [] (.q 10 (.done)) (.nil)))))))))))), (17, .q 0 (.q 1 (.q 2 (.q 3 (.q 4 (.q 5 (.q 6 (.q 7 (.q 8 (.q 9 (.q 10 (.q 11 (.q 12 (.q 13 (.q 14 (.br (.alt 15 [2, 3, 4] (.q 16 (.br (.alt 17 [] (.done) (.nil)))) (.nil)))))))))))))))))), (22, .q 0 (.q 1 (.q 2 (.q 3 (.q 4 (.q 5 (.q 6 (.q 7 (.q 8 (.br (.alt 9 [] (.q 10 (.done)) (.nil)))))))))))), (23, .q 0 (.q 1 (.q 2 (.q 3 (.q 4 (.q 5 (.q 6 (.q 7 (.q 8 (.q 9 (.q 10 (.q 11 (.q 12 (.q 13 (.q 14 (.br (.alt 15 [2, 3, 4] (.q 16 (.br (.alt 17 [] (.done) (.nil)))) (.nil))))))))))))))))))]
theorem k155 : AFdOk Tryz.prog 155 d155 := AFdOk.mk Tryz.func155 rfl rfl (by kernel_rfl)
-- cmp.Less[int]
noncomputable def d156 : AFd := mkAFd Tryz.f156 []
theorem k156 : AFdOk Tryz.prog 156 d156 := AFdOk.mk Tryz.func156 rfl rfl (by kernel_rfl)
-- slices.partitionEqualOrdered[int]
noncomputable def d157 : AFd := mkAFd Tryz.f157 [(1, .q 0 (.q 1 (.q 2 (.q 3 (.q 4 (.q 5 (.q 6 (.q 7 (.q 8 (.q 9 (.q 10 (.q 11 (.q 12 (.br (.alt 13 [2, 3] (.q 14 (.br (.alt 15 [] (.done) (.nil)))) (.nil)))))))))))))))), (3, .q 0 (.q 1 (.q 2 (.q 3 (.q 4 (.q 5 (.q 6 (.q 7 (.q 8 (.q 9 (.q 10 (.q 11 (.br (.alt 12 [] (.q 13 (.q 14 (.done))) (.nil))))))))))))))), (5, .q 0 (.q 1 (.q 2 (.q 3 (.q 4 (.q 5 (.q 6 (.q 7 (.q 8 (.q 9 (.q 10 (.q 11 (.br (.alt 12 [] (.q 13 (.done)) (.nil))))))))))))))), (8, .q 0 (.q 1 (.q 2 (.q 3 (.q 4 (.q 5 (.q 6 (.q 7 (.q 8 (.q 9 (.q 10 (.q 11 (.q 12 (.br (.alt 13 [2, 3] (.q 14 (.br (.alt 15 [] (.done) (.nil)))) (.nil))))))))))))))))]
theorem k157 : AFdOk Tryz.prog 157 d157 := AFdOk.mk Tryz.func157 rfl rfl (by kernel_rfl)
-- slices.partitionOrdered[int]
noncomputable def d158 : AFd := mkAFd Tryz.f158 [(1, .q 0 (.q 1 (.q 2 (.q 3 (.q 4 (.q 5 (.q 6 (.q 7 (.q 8 (.q 9 (.q 10 (.q 11 (.q 12 (.br (.alt 13 [2, 3] (.q 14 (.br (.alt 15 [] (.done) (.nil)))) (.nil)))))))))))))))), (3, .q 0 (.q 1 (.q 2 (.q 3 (.q 4 (.q 5 (.q 6 (.q 7 (.q 8 (.q 9 (.q 10 (.q 11 (.br (.alt 12 [] (.q 13 (.done)) (.nil))))))))))))))), (5, .q 0 (.q 1 (.q 2 (.q 3 (.q 4 (.q 5 (.q 6 (.q 7 (.q 8 (.q 9 (.q 10 (.q 11 (.br (.alt 12 [] (.q 13 (.q 14 (.done))) (.nil))))))))))))))), (8, .q 0 (.q 1 (.q 2 (.q 3 (.q 4 (.q 5 (.q 6 (.q 7 (.q 8 (.q 9 (.q 10 (.q 11 (.q 12 (.br (.alt 13 [2, 3] (.q 14 (.br (.alt 15 [] (.done) (.nil)))) (.nil)))))))))))))))), (10, .q 0 (.q 1 (.q 2 (.q 3 (.q 4 (.q 5 (.q 6 (.q 7 (.q 8 (.q 9 (.q 10 (.q 11 (.q 12 (.br (.alt 13 [2, 3] (.q 14 (.br (.alt 15 [] (.done) (.nil)))) (.nil)))))))))))))))), (13, .q 0 (.q 1 (.q 2 (.q 3 (.q 4 (.q 5 (.q 6 (.q 7 (.q 8 (.q 9 (.q 10 (.q 11 (.br (.alt 12 [] (.q 13 (.done)) (.nil))))))))))))))), (15, .q 0 (.q 1 (.q 2 (.q 3 (.q 4 (.q 5 (.q 6 (.q 7 (.q 8 (.q 9 (.q 10 (.q 11 (.br (.alt 12 [] (.q 13 (.q 14 (.done))) (.nil))))))))))))))), (18, .q 0 (.q 1 (.q 2 (.q 3 (.q 4 (.q 5 (.q 6 (.q 7 (.q 8 (.q 9 (.q 10 (.q 11 (.q 12 (.br (.alt 13 [2, 3] (.q 14 (.br (.alt 15 [] (.done) (.nil)))) (.nil)))))))))))))))), (21, .q 0 (.q 1 (.q 2 (.q 3 (.q 4 (.q 5 (.q 6 (.q 7 (.q 8 (.q 9 (.q 10 (.q 11 (.q 12 (.br (.alt 13 [2, 3] (.q 14 (.br (.alt 15 [] (.done) (.nil)))) (.nil))))))))))))))))]
theorem k158 : AFdOk Tryz.prog 158 d158 := AFdOk.mk Tryz.func158 rfl rfl (by kernel_rfl)
-- midden/pool.kept$1
noncomputable def d162 : AFd := mkAFd Tryz.f162 [(3, .q 0 (.q 1 (.q 2 (.q 3 (.q 4 (.q 5 (.q 6 (.q 7 (.q 8 (.br (.alt 9 [] (.q 10 (.done)) (.nil))))))))))))]
theorem k162 : AFdOk Tryz.prog 162 d162 := AFdOk.mk Tryz.func162 rfl rfl (by kernel_rfl)
-- (*midden/pool.Pool).run
noncomputable def d147 : AFd := mkAFd Tryz.f147 []
theorem k147 : AFdOk Tryz.prog 147 d147 := AFdOk.mk Tryz.func147 rfl rfl (by kernel_rfl)
-- slices.siftDownOrdered[int]
noncomputable def d163 : AFd := mkAFd Tryz.f163 [(3, .q 0 (.q 1 (.q 2 (.q 3 (.q 4 (.q 5 (.q 6 (.q 7 (.q 8 (.q 9 (.q 10 (.q 11 (.q 12 (.q 13 (.q 14 (.q 15 (.q 16 (.q 17 (.br (.alt 18 [] (.q 19 (.done)) (.nil))))))))))))))))))))), (5, .q 0 (.q 1 (.q 2 (.q 3 (.q 4 (.q 5 (.q 6 (.q 7 (.q 8 (.q 9 (.q 10 (.q 11 (.br (.alt 12 [] (.q 13 (.done)) (.nil))))))))))))))), (6, .q 0 (.q 1 (.q 2 (.q 3 (.q 4 (.q 5 (.q 6 (.q 7 (.q 8 (.q 9 (.q 10 (.q 11 (.q 12 (.q 13 (.q 14 (.q 15 (.q 16 (.q 17 (.q 18 (.q 19 (.q 20 (.br (.alt 21 [4, 5, 6, 7] (.q 22 (.br (.alt 23 [] (.done) (.nil)))) (.nil))))))))))))))))))))))))]
theorem k163 : AFdOk Tryz.prog 163 d163 := AFdOk.mk Tryz.func163 rfl rfl (by kernel_rfl)
-- slices.nextPowerOfTwo
noncomputable def d164 : AFd := mkAFd Tryz.f164 []
theorem k164 : AFdOk Tryz.prog 164 d164 := AFdOk.mk Tryz.func164 rfl rfl (by kernel_rfl)
-- (*slices.xorshift).Next
noncomputable def d165 : AFd := mkAFd Tryz.f165 [(1, .q 0 (.q 1 (.q 2 (.q 3 (.q 4 (.q 5 (.q 6 (.q 7 (.q 8 (.br (.alt 9 [] (.done) (.nil)))))))))))), (2, .q 0 (.q 1 (.q 2 (.q 3 (.q 4 (.q 5 (.q 6 (.q 7 (.q 8 (.br (.alt 9 [] (.done) (.nil)))))))))))), (3, .q 0 (.q 1 (.q 2 (.q 3 (.q 4 (.q 5 (.q 6 (.q 7 (.q 8 (.br (.alt 9 [] (.done) (.nil))))))))))))]
theorem k165 : AFdOk Tryz.prog 165 d165 := AFdOk.mk Tryz.func165 rfl rfl (by kernel_rfl)
-- slices.medianAdjacentOrdered[int]
noncomputable def d166 : AFd := mkAFd Tryz.f166 []
theorem k166 : AFdOk Tryz.prog 166 d166 := AFdOk.mk Tryz.func166 rfl rfl (by kernel_rfl)
-- slices.medianOrdered[int]
noncomputable def d167 : AFd := mkAFd Tryz.f167 []
theorem k167 : AFdOk Tryz.prog 167 d167 := AFdOk.mk Tryz.func167 rfl rfl (by kernel_rfl)
-- cmp.isNaN[int]
noncomputable def d168 : AFd := mkAFd Tryz.f168 []
theorem k168 : AFdOk Tryz.prog 168 d168 := AFdOk.mk Tryz.func168 rfl rfl (by kernel_rfl)
-- slices.order2Ordered[int]
noncomputable def d169 : AFd := mkAFd Tryz.f169 [(1, .q 0 (.q 1 (.q 2 (.q 3 (.q 4 (.q 5 (.q 6 (.q 7 (.br (.alt 8 [] (.done) (.nil)))))))))))]
theorem k169 : AFdOk Tryz.prog 169 d169 := AFdOk.mk Tryz.func169 rfl rfl (by kernel_rfl)
noncomputable def fdL : List (Nat × AFd) := [(6, d6), (21, d21), (12, d12), (13, d13), (18, d18), (22, d22), (23, d23), (24, d24), (25, d25), (26, d26), (27, d27), (28, d28), (29, d29), (30, d30), (31, d31), (9, d9), (32, d32), (15, d15), (20, d20), (33, d33), (34, d34), (60, d60), (61, d61), (62, d62), (63, d63), (52, d52), (53, d53), (54, d54), (64, d64), (65, d65), (66, d66), (68, d68), (67, d67), (69, d69), (70, d70), (71, d71), (72, d72), (73, d73), (74, d74), (75, d75), (76, d76), (77, d77), (78, d78), (79, d79), (80, d80), (38, d38), (81, d81), (55, d55), (56, d56), (58, d58), (59, d59), (82, d82), (83, d83), (117, d117), (118, d118), (119, d119), (111, d111), (112, d112), (120, d120), (121, d121), (122, d122), (123, d123), (124, d124), (125, d125), (126, d126), (127, d127), (93, d93), (94, d94), (95, d95), (96, d96), (128, d128), (113, d113), (114, d114), (129, d129), (141, d141), (142, d142), (143, d143), (132, d132), (140, d140), (139, d139), (144, d144), (145, d145), (161, d161), (146, d146), (159, d159), (160, d160), (150, d150), (151, d151), (152, d152), (153, d153), (154, d154), (155, d155), (156, d156), (157, d157), (158, d158), (162, d162), (147, d147), (163, d163), (164, d164), (165, d165), (166, d166), (167, d167), (168, d168), (169, d169)]
theorem fdL_ok : ∀ p ∈ fdL, AFdOk Tryz.prog p.1 p.2 := by
  unfold fdL
  simp only [List.forall_mem_cons, List.not_mem_nil, false_imp_iff, implies_true, and_true]
  exact ⟨k6, k21, k12, k13, k18, k22, k23, k24, k25, k26, k27, k28, k29, k30, k31, k9, k32, k15, k20, k33, k34, k60, k61, k62, k63, k52, k53, k54, k64, k65, k66, k68, k67, k69, k70, k71, k72, k73, k74, k75, k76, k77, k78, k79, k80, k38, k81, k55, k56, k58, k59, k82, k83, k117, k118, k119, k111, k112, k120, k121, k122, k123, k124, k125, k126, k127, k93, k94, k95, k96, k128, k113, k114, k129, k141, k142, k143, k132, k140, k139, k144, k145, k161, k146, k159, k160, k150, k151, k152, k153, k154, k155, k156, k157, k158, k162, k147, k163, k164, k165, k166, k167, k168, k169⟩
noncomputable def fns : Nat → Option AFd := find (fdTree fdL)
theorem fns_ok : FnsOk Tryz.prog fns := FnsOk.mk fdL_ok
noncomputable def tau : Ty := tyTree Tryz.prog 213
theorem tau_ok : TyOk Tryz.prog tau := tyTree_ok _ _
end Go.Proofs.YtidoomdkoipaeaaGreatDoor.AW
