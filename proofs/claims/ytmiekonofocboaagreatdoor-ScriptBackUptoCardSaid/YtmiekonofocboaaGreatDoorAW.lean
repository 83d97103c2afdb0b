/- What the evaluator is told of the functions that midden/middenlaw24.awake reaches: their code by name, and a plan for each region that draws its order. Written by genfd.py out of the translation. -/
import Derived.Test.YtmiekonofocboaaGreatDoorF18
import Derived.Test.YtmiekonofocboaaGreatDoorProg
import Derived.KernelRfl
set_option maxRecDepth 100000
set_option linter.unusedVariables false
namespace Go.Proofs.YtmiekonofocboaaGreatDoor.AW
open Go Go.Eng Go.AM Go.Proofs
-- midden/middenlaw24.awake
noncomputable def d9 : AFd := mkAFd Tryz.f9 []
theorem k9 : AFdOk Tryz.prog 9 d9 := AFdOk.mk Tryz.func9 rfl rfl (by kernel_rfl)
-- midden/script.Play
noncomputable def d21 : AFd := mkAFd Tryz.f21 []
theorem k21 : AFdOk Tryz.prog 21 d21 := AFdOk.mk Tryz.func21 rfl rfl (by kernel_rfl)
-- midden/script.Parse
noncomputable def d7 : AFd := mkAFd Tryz.f7 []
theorem k7 : AFdOk Tryz.prog 7 d7 := AFdOk.mk Tryz.func7 rfl rfl (by kernel_rfl)
-- midden/script.words
noncomputable def d26 : AFd := mkAFd Tryz.f26 []
theorem k26 : AFdOk Tryz.prog 26 d26 := AFdOk.mk Tryz.func26 rfl rfl (by kernel_rfl)
-- midden/script.Run
noncomputable def d34 : AFd := mkAFd Tryz.f34 []
theorem k34 : AFdOk Tryz.prog 34 d34 := AFdOk.mk Tryz.func34 rfl rfl (by kernel_rfl)
-- midden/script.split
noncomputable def d15 : AFd := mkAFd Tryz.f15 []
theorem k15 : AFdOk Tryz.prog 15 d15 := AFdOk.mk Tryz.func15 rfl rfl (by kernel_rfl)
-- midden/script.heap
noncomputable def d16 : AFd := mkAFd Tryz.f16 [(5, .q 0 (.q 1 (.q 2 (.q 3 (.q 4 (.q 5 (.q 6 (.q 7 (.q 8 (.q 9 (.q 10 (.q 11 (.q 12 (.q 13 (.q 14 (.q 16 (.q 17 (.q 18 (.br (.alt 15 [16, 17, 18] (.br (.alt 19 [16, 17, 18] (.q 20 (.q 21 (.done))) (.nil))) (.nil)))))))))))))))))))))]
theorem k16 : AFdOk Tryz.prog 16 d16 := AFdOk.mk Tryz.func16 rfl rfl (by kernel_rfl)
-- midden/script.line
noncomputable def d17 : AFd := mkAFd Tryz.f17 [(7, .q 0 (.q 1 (.q 2 (.q 3 (.q 4 (.q 5 (.br (.alt 6 [] (.done) (.nil)))))))))]
theorem k17 : AFdOk Tryz.prog 17 d17 := AFdOk.mk Tryz.func17 rfl rfl (by kernel_rfl)
-- midden/script.digits
noncomputable def d23 : AFd := mkAFd Tryz.f23 []
theorem k23 : AFdOk Tryz.prog 23 d23 := AFdOk.mk Tryz.func23 rfl rfl (by kernel_rfl)
-- midden/host.Load
noncomputable def d40 : AFd := mkAFd Tryz.f40 [(14, .q 0 (.q 1 (.q 2 (.q 3 (.q 4 (.q 5 (.q 6 (.br (.alt 7 [] (.done) (.nil))))))))))]
theorem k40 : AFdOk Tryz.prog 40 d40 := AFdOk.mk Tryz.func40 rfl rfl (by kernel_rfl)
-- (*midden/script.player).do
noncomputable def d41 : AFd := mkAFd Tryz.f41 [(3, .q 0 (.q 1 (.q 2 (.q 3 (.q 4 (.q 5 (.q 6 (.q 7 (.br (.alt 8 [] (.q 9 (.q 10 (.q 11 (.q 12 (.q 13 (.done)))))) (.nil))))))))))), (9, .q 0 (.q 1 (.q 2 (.q 3 (.q 4 (.q 5 (.q 6 (.q 8 (.q 9 (.q 10 (.q 11 (.q 12 (.q 13 (.q 14 (.q 15 (.br (.alt 7 [0, 1, 2, 3, 8, 9, 10, 11, 12, 13, 14, 15] (.br (.alt 16 [] (.q 17 (.q 18 (.q 19 (.br (.alt 20 [0, 1, 2, 3, 4, 5, 6, 8, 9, 10, 11, 12, 13, 14, 15, 17, 18, 19] (.br (.alt 21 [19] (.q 22 (.done)) (.nil))) (.nil)))))) (.alt 20 [0, 1, 2, 3, 4, 5, 6, 8, 9, 10, 11, 12, 13, 14, 15] (.br (.alt 16 [] (.q 17 (.q 18 (.q 19 (.br (.alt 21 [19] (.q 22 (.done)) (.nil)))))) (.nil))) (.nil)))) (.alt 20 [0, 1, 2, 3, 4, 5, 6, 8, 9, 10, 11, 12, 13, 14, 15] (.br (.alt 7 [0, 1, 2, 3, 8, 9, 10, 11, 12, 13, 14, 15] (.br (.alt 16 [] (.q 17 (.q 18 (.q 19 (.br (.alt 21 [19] (.q 22 (.done)) (.nil)))))) (.nil))) (.nil))) (.nil))))))))))))))))))), (13, .q 0 (.q 1 (.q 2 (.q 3 (.q 4 (.q 5 (.q 6 (.br (.alt 7 [0, 1, 2, 3, 4] (.br (.alt 8 [0] (.q 9 (.q 10 (.br (.alt 11 [] (.done) (.nil))))) (.nil))) (.nil)))))))))), (16, .q 0 (.q 1 (.q 2 (.q 3 (.q 4 (.q 5 (.q 6 (.br (.alt 7 [0, 1, 2, 3] (.br (.alt 8 [] (.br (.alt 9 [] (.q 10 (.done)) (.nil))) (.nil))) (.nil)))))))))), (18, .q 0 (.q 1 (.q 2 (.q 3 (.q 4 (.q 5 (.br (.alt 6 [] (.br (.alt 7 [] (.q 8 (.done)) (.nil))) (.nil)))))))))]
theorem k41 : AFdOk Tryz.prog 41 d41 := AFdOk.mk Tryz.func41 rfl rfl (by kernel_rfl)
-- midden/script.numbers
noncomputable def d29 : AFd := mkAFd Tryz.f29 []
theorem k29 : AFdOk Tryz.prog 29 d29 := AFdOk.mk Tryz.func29 rfl rfl (by kernel_rfl)
-- midden/lex.Word
noncomputable def d30 : AFd := mkAFd Tryz.f30 []
theorem k30 : AFdOk Tryz.prog 30 d30 := AFdOk.mk Tryz.func30 rfl rfl (by kernel_rfl)
-- midden/script.line$1
noncomputable def d31 : AFd := mkAFd Tryz.f31 []
theorem k31 : AFdOk Tryz.prog 31 d31 := AFdOk.mk Tryz.func31 rfl rfl (by kernel_rfl)
-- midden/lex.Join
noncomputable def d35 : AFd := mkAFd Tryz.f35 []
theorem k35 : AFdOk Tryz.prog 35 d35 := AFdOk.mk Tryz.func35 rfl rfl (by kernel_rfl)
-- midden/tree.Parse
noncomputable def d61 : AFd := mkAFd Tryz.f61 [(3, .q 1 (.q 2 (.br (.alt 0 [1, 2] (.br (.alt 3 [1, 2] (.br (.alt 4 [2] (.br (.alt 5 [] (.done) (.nil))) (.nil))) (.nil))) (.nil)))))]
theorem k61 : AFdOk Tryz.prog 61 d61 := AFdOk.mk Tryz.func61 rfl rfl (by kernel_rfl)
-- midden/gen.Compile
noncomputable def d62 : AFd := mkAFd Tryz.f62 [(8, .q 0 (.q 1 (.q 2 (.q 3 (.q 4 (.q 5 (.q 6 (.br (.alt 7 [] (.done) (.nil)))))))))), (9, .q 0 (.q 1 (.q 2 (.q 3 (.q 4 (.q 5 (.q 6 (.q 7 (.q 8 (.q 9 (.br (.alt 10 [0, 1, 2, 3, 4, 5] (.br (.alt 11 [0, 1, 2, 3, 4, 5] (.br (.alt 12 [0] (.q 13 (.q 14 (.q 15 (.br (.alt 16 [] (.done) (.nil)))))) (.nil))) (.nil))) (.nil))))))))))))), (14, .q 0 (.q 1 (.q 2 (.q 3 (.q 4 (.q 5 (.q 6 (.br (.alt 7 [] (.done) (.nil)))))))))), (15, .q 0 (.q 1 (.q 2 (.q 3 (.q 4 (.q 5 (.q 6 (.q 7 (.q 8 (.br (.alt 9 [0, 1, 2, 3, 4, 5] (.br (.alt 10 [0, 1, 2, 3, 4, 5] (.br (.alt 11 [0] (.q 12 (.q 13 (.q 14 (.br (.alt 15 [] (.done) (.nil)))))) (.nil))) (.nil))) (.nil))))))))))))]
theorem k62 : AFdOk Tryz.prog 62 d62 := AFdOk.mk Tryz.func62 rfl rfl (by kernel_rfl)
-- midden/machine.New
noncomputable def d63 : AFd := mkAFd Tryz.f63 [(16, .q 0 (.q 1 (.q 2 (.q 3 (.q 4 (.q 5 (.q 6 (.q 7 (.q 8 (.br (.alt 9 [] (.br (.alt 10 [] (.q 11 (.q 12 (.q 13 (.br (.alt 14 [0, 1, 2, 3, 4, 5, 6, 7, 8, 11, 12, 13] (.br (.alt 15 [13] (.q 16 (.done)) (.nil))) (.nil)))))) (.alt 14 [0, 1, 2, 3, 4, 5, 6, 7, 8] (.br (.alt 10 [] (.q 11 (.q 12 (.q 13 (.br (.alt 15 [13] (.q 16 (.done)) (.nil)))))) (.nil))) (.nil)))) (.alt 14 [0, 1, 2, 3, 4, 5, 6, 7, 8] (.br (.alt 9 [] (.br (.alt 10 [] (.q 11 (.q 12 (.q 13 (.br (.alt 15 [13] (.q 16 (.done)) (.nil)))))) (.nil))) (.nil))) (.nil))))))))))))), (17, .q 0 (.q 1 (.q 2 (.q 3 (.br (.alt 4 [0, 1] (.br (.alt 5 [] (.q 6 (.q 7 (.q 8 (.q 9 (.q 10 (.done)))))) (.nil))) (.nil)))))))]
theorem k63 : AFdOk Tryz.prog 63 d63 := AFdOk.mk Tryz.func63 rfl rfl (by kernel_rfl)
-- (*midden/host.Host).Make
noncomputable def d64 : AFd := mkAFd Tryz.f64 []
theorem k64 : AFdOk Tryz.prog 64 d64 := AFdOk.mk Tryz.func64 rfl rfl (by kernel_rfl)
-- midden/script.result
noncomputable def d65 : AFd := mkAFd Tryz.f65 []
theorem k65 : AFdOk Tryz.prog 65 d65 := AFdOk.mk Tryz.func65 rfl rfl (by kernel_rfl)
-- (*midden/script.player).hand
noncomputable def d67 : AFd := mkAFd Tryz.f67 []
theorem k67 : AFdOk Tryz.prog 67 d67 := AFdOk.mk Tryz.func67 rfl rfl (by kernel_rfl)
-- (*midden/host.Host).Show
noncomputable def d66 : AFd := mkAFd Tryz.f66 [(20, .q 0 (.q 1 (.br (.alt 2 [0] (.br (.alt 3 [] (.q 4 (.done)) (.nil))) (.nil)))))]
theorem k66 : AFdOk Tryz.prog 66 d66 := AFdOk.mk Tryz.func66 rfl rfl (by kernel_rfl)
-- midden/script.outcome
noncomputable def d68 : AFd := mkAFd Tryz.f68 []
theorem k68 : AFdOk Tryz.prog 68 d68 := AFdOk.mk Tryz.func68 rfl rfl (by kernel_rfl)
-- (*midden/host.Host).Drop
noncomputable def d69 : AFd := mkAFd Tryz.f69 []
theorem k69 : AFdOk Tryz.prog 69 d69 := AFdOk.mk Tryz.func69 rfl rfl (by kernel_rfl)
-- (*midden/host.Host).Collect
noncomputable def d70 : AFd := mkAFd Tryz.f70 []
theorem k70 : AFdOk Tryz.prog 70 d70 := AFdOk.mk Tryz.func70 rfl rfl (by kernel_rfl)
-- (*midden/host.Host).Out
noncomputable def d71 : AFd := mkAFd Tryz.f71 []
theorem k71 : AFdOk Tryz.prog 71 d71 := AFdOk.mk Tryz.func71 rfl rfl (by kernel_rfl)
-- midden/script.number
noncomputable def d36 : AFd := mkAFd Tryz.f36 []
theorem k36 : AFdOk Tryz.prog 36 d36 := AFdOk.mk Tryz.func36 rfl rfl (by kernel_rfl)
-- (*midden/lex.reader).token
noncomputable def d37 : AFd := mkAFd Tryz.f37 []
theorem k37 : AFdOk Tryz.prog 37 d37 := AFdOk.mk Tryz.func37 rfl rfl (by kernel_rfl)
-- midden/lex.text
noncomputable def d42 : AFd := mkAFd Tryz.f42 [(5, .q 0 (.q 1 (.q 2 (.q 3 (.q 4 (.q 5 (.br (.alt 6 [0, 1] (.q 7 (.q 8 (.done))) (.nil))))))))), (7, .q 0 (.q 1 (.q 2 (.q 3 (.br (.alt 4 [0, 1] (.q 5 (.q 6 (.done))) (.nil))))))), (9, .q 0 (.q 1 (.q 2 (.q 3 (.br (.alt 4 [0, 1] (.q 5 (.q 6 (.done))) (.nil)))))))]
theorem k42 : AFdOk Tryz.prog 42 d42 := AFdOk.mk Tryz.func42 rfl rfl (by kernel_rfl)
-- midden/lex.Scan
noncomputable def d43 : AFd := mkAFd Tryz.f43 [(12, .q 0 (.q 1 (.q 2 (.q 3 (.q 4 (.q 5 (.q 6 (.q 7 (.done)))))))))]
theorem k43 : AFdOk Tryz.prog 43 d43 := AFdOk.mk Tryz.func43 rfl rfl (by kernel_rfl)
-- midden/tree.Parse$1
noncomputable def d75 : AFd := mkAFd Tryz.f75 [(3, .q 1 (.q 2 (.q 3 (.q 4 (.br (.alt 0 [1, 2, 3, 4] (.br (.alt 5 [1, 2, 3, 4] (.br (.alt 6 [3, 4] (.br (.alt 7 [] (.done) (.nil))) (.nil))) (.nil))) (.nil)))))))]
theorem k75 : AFdOk Tryz.prog 75 d75 := AFdOk.mk Tryz.func75 rfl rfl (by kernel_rfl)
-- (*midden/tree.parser).program
noncomputable def d76 : AFd := mkAFd Tryz.f76 [(8, .q 0 (.q 1 (.q 2 (.q 3 (.q 4 (.q 5 (.q 6 (.q 7 (.q 8 (.q 9 (.done))))))))))), (9, .q 0 (.q 1 (.q 2 (.br (.alt 3 [0, 1] (.br (.alt 4 [0, 1] (.br (.alt 5 [] (.q 6 (.br (.alt 7 [] (.done) (.nil)))) (.nil))) (.nil))) (.nil))))))]
theorem k76 : AFdOk Tryz.prog 76 d76 := AFdOk.mk Tryz.func76 rfl rfl (by kernel_rfl)
-- midden/scope.Check
noncomputable def d77 : AFd := mkAFd Tryz.f77 [(5, .q 0 (.q 1 (.q 2 (.q 3 (.q 4 (.q 5 (.q 6 (.q 7 (.q 8 (.q 9 (.q 10 (.q 11 (.done))))))))))))), (10, .q 0 (.q 1 (.q 2 (.q 3 (.q 4 (.q 5 (.q 6 (.q 7 (.q 8 (.q 9 (.q 10 (.q 11 (.br (.alt 12 [] (.done) (.nil))))))))))))))), (26, .q 0 (.q 1 (.q 2 (.q 3 (.q 4 (.q 5 (.br (.alt 6 [] (.done) (.nil))))))))), (36, .q 0 (.q 1 (.q 2 (.q 3 (.q 4 (.q 5 (.q 6 (.q 7 (.q 8 (.q 9 (.q 10 (.q 11 (.q 12 (.q 13 (.q 14 (.q 15 (.done)))))))))))))))))]
theorem k77 : AFdOk Tryz.prog 77 d77 := AFdOk.mk Tryz.func77 rfl rfl (by kernel_rfl)
-- (*midden/gen.scheme).info
noncomputable def d78 : AFd := mkAFd Tryz.f78 [(5, .q 0 (.q 1 (.q 2 (.q 3 (.q 4 (.q 5 (.q 6 (.q 7 (.q 8 (.q 9 (.q 10 (.q 11 (.br (.alt 12 [] (.done) (.nil))))))))))))))), (6, .q 0 (.q 1 (.q 2 (.q 3 (.q 4 (.q 5 (.q 6 (.br (.alt 7 [0, 1, 2, 3, 4, 5] (.br (.alt 8 [0] (.q 9 (.q 10 (.q 11 (.br (.alt 12 [] (.done) (.nil)))))) (.nil))) (.nil)))))))))), (7, .q 0 (.q 1 (.q 2 (.q 3 (.q 4 (.q 5 (.br (.alt 6 [0, 1, 2, 3, 4] (.br (.alt 7 [0] (.q 8 (.q 9 (.br (.alt 10 [] (.done) (.nil))))) (.nil))) (.nil)))))))))]
theorem k78 : AFdOk Tryz.prog 78 d78 := AFdOk.mk Tryz.func78 rfl rfl (by kernel_rfl)
-- midden/code.Check
noncomputable def d79 : AFd := mkAFd Tryz.f79 []
theorem k79 : AFdOk Tryz.prog 79 d79 := AFdOk.mk Tryz.func79 rfl rfl (by kernel_rfl)
-- midden/heap.New
noncomputable def d80 : AFd := mkAFd Tryz.f80 []
theorem k80 : AFdOk Tryz.prog 80 d80 := AFdOk.mk Tryz.func80 rfl rfl (by kernel_rfl)
-- midden/arena.New
noncomputable def d81 : AFd := mkAFd Tryz.f81 []
theorem k81 : AFdOk Tryz.prog 81 d81 := AFdOk.mk Tryz.func81 rfl rfl (by kernel_rfl)
-- midden/stack.New
noncomputable def d82 : AFd := mkAFd Tryz.f82 []
theorem k82 : AFdOk Tryz.prog 82 d82 := AFdOk.mk Tryz.func82 rfl rfl (by kernel_rfl)
-- midden/stable.New
noncomputable def d83 : AFd := mkAFd Tryz.f83 []
theorem k83 : AFdOk Tryz.prog 83 d83 := AFdOk.mk Tryz.func83 rfl rfl (by kernel_rfl)
-- midden/code.Head
noncomputable def d84 : AFd := mkAFd Tryz.f84 []
theorem k84 : AFdOk Tryz.prog 84 d84 := AFdOk.mk Tryz.func84 rfl rfl (by kernel_rfl)
-- (*midden/heap.Heap).Lay
noncomputable def d85 : AFd := mkAFd Tryz.f85 []
theorem k85 : AFdOk Tryz.prog 85 d85 := AFdOk.mk Tryz.func85 rfl rfl (by kernel_rfl)
-- (*midden/host.Host).wrong
noncomputable def d86 : AFd := mkAFd Tryz.f86 []
theorem k86 : AFdOk Tryz.prog 86 d86 := AFdOk.mk Tryz.func86 rfl rfl (by kernel_rfl)
-- (*midden/machine.Machine).Make
noncomputable def d87 : AFd := mkAFd Tryz.f87 [(4, .q 0 (.q 1 (.q 2 (.q 3 (.q 4 (.q 5 (.q 6 (.q 7 (.q 8 (.q 9 (.q 10 (.q 11 (.done))))))))))))), (11, .q 0 (.q 1 (.q 2 (.q 3 (.q 4 (.q 5 (.q 6 (.q 7 (.q 8 (.q 9 (.q 10 (.br (.alt 11 [] (.q 12 (.q 13 (.q 14 (.q 15 (.done))))) (.nil)))))))))))))), (17, .q 0 (.q 1 (.q 2 (.q 3 (.q 4 (.br (.alt 5 [] (.q 6 (.q 7 (.q 8 (.q 9 (.done))))) (.nil))))))))]
theorem k87 : AFdOk Tryz.prog 87 d87 := AFdOk.mk Tryz.func87 rfl rfl (by kernel_rfl)
-- (*midden/host.Host).see
noncomputable def d88 : AFd := mkAFd Tryz.f88 []
theorem k88 : AFdOk Tryz.prog 88 d88 := AFdOk.mk Tryz.func88 rfl rfl (by kernel_rfl)
-- (*midden/machine.Machine).Show
noncomputable def d89 : AFd := mkAFd Tryz.f89 []
theorem k89 : AFdOk Tryz.prog 89 d89 := AFdOk.mk Tryz.func89 rfl rfl (by kernel_rfl)
-- (*midden/host.Host).Show$1
noncomputable def d90 : AFd := mkAFd Tryz.f90 [(4, .q 0 (.q 1 (.q 2 (.q 3 (.q 4 (.q 5 (.q 6 (.q 7 (.q 8 (.q 9 (.q 10 (.br (.alt 11 [] (.q 12 (.q 13 (.done))) (.nil))))))))))))))]
theorem k90 : AFdOk Tryz.prog 90 d90 := AFdOk.mk Tryz.func90 rfl rfl (by kernel_rfl)
-- (*midden/machine.Machine).Step
noncomputable def d92 : AFd := mkAFd Tryz.f92 [(10, .q 0 (.q 1 (.q 2 (.q 3 (.q 4 (.q 5 (.q 6 (.q 7 (.q 8 (.q 9 (.q 10 (.q 11 (.br (.alt 12 [] (.q 13 (.done)) (.nil)))))))))))))))]
theorem k92 : AFdOk Tryz.prog 92 d92 := AFdOk.mk Tryz.func92 rfl rfl (by kernel_rfl)
-- (*midden/machine.Machine).Outcome
noncomputable def d93 : AFd := mkAFd Tryz.f93 []
theorem k93 : AFdOk Tryz.prog 93 d93 := AFdOk.mk Tryz.func93 rfl rfl (by kernel_rfl)
-- (*midden/machine.Machine).Run
noncomputable def d94 : AFd := mkAFd Tryz.f94 []
theorem k94 : AFdOk Tryz.prog 94 d94 := AFdOk.mk Tryz.func94 rfl rfl (by kernel_rfl)
-- midden/script.Tree
noncomputable def d11 : AFd := mkAFd Tryz.f11 [(20, .q 0 (.q 3 (.br (.alt 1 [0, 3] (.br (.alt 2 [3] (.br (.alt 4 [] (.br (.alt 5 [] (.br (.alt 6 [] (.done) (.nil))) (.nil))) (.nil))) (.nil))) (.nil)))))]
theorem k11 : AFdOk Tryz.prog 11 d11 := AFdOk.mk Tryz.func11 rfl rfl (by kernel_rfl)
-- (*midden/machine.Machine).Drop
noncomputable def d95 : AFd := mkAFd Tryz.f95 []
theorem k95 : AFdOk Tryz.prog 95 d95 := AFdOk.mk Tryz.func95 rfl rfl (by kernel_rfl)
-- (*midden/machine.Machine).Collect
noncomputable def d91 : AFd := mkAFd Tryz.f91 []
theorem k91 : AFdOk Tryz.prog 91 d91 := AFdOk.mk Tryz.func91 rfl rfl (by kernel_rfl)
-- (*midden/machine.Machine).Out
noncomputable def d96 : AFd := mkAFd Tryz.f96 []
theorem k96 : AFdOk Tryz.prog 96 d96 := AFdOk.mk Tryz.func96 rfl rfl (by kernel_rfl)
-- (*midden/lex.reader).byte
noncomputable def d44 : AFd := mkAFd Tryz.f44 [(1, .q 0 (.q 1 (.q 2 (.q 3 (.q 4 (.q 5 (.q 6 (.q 7 (.q 8 (.q 9 (.q 10 (.q 11 (.done))))))))))))), (2, .q 0 (.q 1 (.q 2 (.q 3 (.q 4 (.q 5 (.q 6 (.q 7 (.q 8 (.q 9 (.q 10 (.q 11 (.done)))))))))))))]
theorem k44 : AFdOk Tryz.prog 44 d44 := AFdOk.mk Tryz.func44 rfl rfl (by kernel_rfl)
-- midden/lex.small
noncomputable def d45 : AFd := mkAFd Tryz.f45 []
theorem k45 : AFdOk Tryz.prog 45 d45 := AFdOk.mk Tryz.func45 rfl rfl (by kernel_rfl)
-- (*midden/lex.reader).run
noncomputable def d46 : AFd := mkAFd Tryz.f46 [(4, .q 0 (.q 1 (.q 2 (.q 3 (.q 4 (.q 5 (.q 6 (.q 7 (.q 8 (.q 9 (.q 10 (.done))))))))))))]
theorem k46 : AFdOk Tryz.prog 46 d46 := AFdOk.mk Tryz.func46 rfl rfl (by kernel_rfl)
-- midden/lex.inside
noncomputable def d47 : AFd := mkAFd Tryz.f47 []
theorem k47 : AFdOk Tryz.prog 47 d47 := AFdOk.mk Tryz.func47 rfl rfl (by kernel_rfl)
-- midden/lex.reserved
noncomputable def d48 : AFd := mkAFd Tryz.f48 []
theorem k48 : AFdOk Tryz.prog 48 d48 := AFdOk.mk Tryz.func48 rfl rfl (by kernel_rfl)
-- midden/lex.large
noncomputable def d49 : AFd := mkAFd Tryz.f49 []
theorem k49 : AFdOk Tryz.prog 49 d49 := AFdOk.mk Tryz.func49 rfl rfl (by kernel_rfl)
-- midden/lex.digit
noncomputable def d50 : AFd := mkAFd Tryz.f50 []
theorem k50 : AFdOk Tryz.prog 50 d50 := AFdOk.mk Tryz.func50 rfl rfl (by kernel_rfl)
-- midden/lex.number
noncomputable def d51 : AFd := mkAFd Tryz.f51 []
theorem k51 : AFdOk Tryz.prog 51 d51 := AFdOk.mk Tryz.func51 rfl rfl (by kernel_rfl)
-- midden/lex.sign
noncomputable def d52 : AFd := mkAFd Tryz.f52 []
theorem k52 : AFdOk Tryz.prog 52 d52 := AFdOk.mk Tryz.func52 rfl rfl (by kernel_rfl)
-- midden/lex.digits
noncomputable def d72 : AFd := mkAFd Tryz.f72 []
theorem k72 : AFdOk Tryz.prog 72 d72 := AFdOk.mk Tryz.func72 rfl rfl (by kernel_rfl)
-- (*midden/lex.reader).blanks
noncomputable def d73 : AFd := mkAFd Tryz.f73 [(0, .q 0 (.q 1 (.q 2 (.q 3 (.q 4 (.q 5 (.q 6 (.q 7 (.q 8 (.q 9 (.done))))))))))), (1, .q 0 (.q 1 (.q 2 (.q 3 (.q 4 (.q 5 (.q 6 (.q 7 (.q 8 (.q 9 (.done))))))))))), (5, .q 0 (.q 1 (.q 2 (.q 3 (.q 4 (.q 5 (.q 6 (.q 7 (.q 8 (.q 9 (.q 10 (.q 11 (.q 12 (.q 13 (.q 14 (.q 15 (.q 16 (.q 17 (.q 18 (.q 19 (.q 20 (.q 21 (.done)))))))))))))))))))))))]
theorem k73 : AFdOk Tryz.prog 73 d73 := AFdOk.mk Tryz.func73 rfl rfl (by kernel_rfl)
-- (*midden/tree.parser).is
noncomputable def d97 : AFd := mkAFd Tryz.f97 []
theorem k97 : AFdOk Tryz.prog 97 d97 := AFdOk.mk Tryz.func97 rfl rfl (by kernel_rfl)
-- (*midden/tree.parser).kind
noncomputable def d98 : AFd := mkAFd Tryz.f98 []
theorem k98 : AFdOk Tryz.prog 98 d98 := AFdOk.mk Tryz.func98 rfl rfl (by kernel_rfl)
-- (*midden/tree.parser).want
noncomputable def d99 : AFd := mkAFd Tryz.f99 []
theorem k99 : AFdOk Tryz.prog 99 d99 := AFdOk.mk Tryz.func99 rfl rfl (by kernel_rfl)
-- (*midden/tree.parser).bind
noncomputable def d100 : AFd := mkAFd Tryz.f100 []
theorem k100 : AFdOk Tryz.prog 100 d100 := AFdOk.mk Tryz.func100 rfl rfl (by kernel_rfl)
-- (*midden/scope.names).has
noncomputable def d101 : AFd := mkAFd Tryz.f101 []
theorem k101 : AFdOk Tryz.prog 101 d101 := AFdOk.mk Tryz.func101 rfl rfl (by kernel_rfl)
-- (*midden/scope.names).with
noncomputable def d102 : AFd := mkAFd Tryz.f102 []
theorem k102 : AFdOk Tryz.prog 102 d102 := AFdOk.mk Tryz.func102 rfl rfl (by kernel_rfl)
-- (*midden/scope.checker).form
noncomputable def d103 : AFd := mkAFd Tryz.f103 [(6, .q 0 (.q 1 (.q 2 (.q 3 (.q 4 (.q 5 (.q 6 (.q 7 (.q 8 (.q 10 (.q 11 (.br (.alt 9 [10, 11] (.q 12 (.q 13 (.done))) (.nil)))))))))))))), (8, .q 0 (.q 1 (.q 2 (.q 3 (.q 4 (.q 5 (.br (.alt 6 [0, 1, 2, 3] (.br (.alt 7 [] (.done) (.nil))) (.nil)))))))))]
theorem k103 : AFdOk Tryz.prog 103 d103 := AFdOk.mk Tryz.func103 rfl rfl (by kernel_rfl)
-- (*midden/scope.checker).fail
noncomputable def d104 : AFd := mkAFd Tryz.f104 []
theorem k104 : AFdOk Tryz.prog 104 d104 := AFdOk.mk Tryz.func104 rfl rfl (by kernel_rfl)
-- (*midden/gen.scheme).info$1
noncomputable def d105 : AFd := mkAFd Tryz.f105 [(0, .q 0 (.q 1 (.q 2 (.q 3 (.q 4 (.q 5 (.q 6 (.q 7 (.q 8 (.q 9 (.q 10 (.q 11 (.q 12 (.q 13 (.br (.alt 14 [] (.done) (.nil)))))))))))))))))]
theorem k105 : AFdOk Tryz.prog 105 d105 := AFdOk.mk Tryz.func105 rfl rfl (by kernel_rfl)
-- (*midden/code.checker).info
noncomputable def d107 : AFd := mkAFd Tryz.f107 [(12, .q 0 (.q 1 (.q 2 (.q 3 (.q 4 (.q 5 (.q 6 (.q 7 (.q 8 (.q 9 (.q 10 (.q 11 (.q 12 (.q 13 (.q 14 (.q 15 (.q 16 (.done))))))))))))))))))]
theorem k107 : AFdOk Tryz.prog 107 d107 := AFdOk.mk Tryz.func107 rfl rfl (by kernel_rfl)
-- (*midden/code.checker).insn
noncomputable def d108 : AFd := mkAFd Tryz.f108 []
theorem k108 : AFdOk Tryz.prog 108 d108 := AFdOk.mk Tryz.func108 rfl rfl (by kernel_rfl)
-- midden/heap.between
noncomputable def d109 : AFd := mkAFd Tryz.f109 []
theorem k109 : AFdOk Tryz.prog 109 d109 := AFdOk.mk Tryz.func109 rfl rfl (by kernel_rfl)
-- midden/pool.New
noncomputable def d110 : AFd := mkAFd Tryz.f110 [(3, .q 0 (.q 2 (.br (.alt 1 [2] (.br (.alt 3 [0] (.br (.alt 4 [] (.br (.alt 5 [] (.q 6 (.done)) (.nil))) (.nil))) (.nil))) (.alt 3 [0] (.br (.alt 1 [2] (.br (.alt 4 [] (.br (.alt 5 [] (.q 6 (.done)) (.nil))) (.nil))) (.nil))) (.nil))))))]
theorem k110 : AFdOk Tryz.prog 110 d110 := AFdOk.mk Tryz.func110 rfl rfl (by kernel_rfl)
-- midden/remember.New
noncomputable def d111 : AFd := mkAFd Tryz.f111 []
theorem k111 : AFdOk Tryz.prog 111 d111 := AFdOk.mk Tryz.func111 rfl rfl (by kernel_rfl)
-- (*midden/pool.Pool).Alloc
noncomputable def d112 : AFd := mkAFd Tryz.f112 [(13, .q 0 (.q 1 (.q 2 (.q 3 (.q 4 (.q 5 (.q 6 (.br (.alt 7 [] (.done) (.nil))))))))))]
theorem k112 : AFdOk Tryz.prog 112 d112 := AFdOk.mk Tryz.func112 rfl rfl (by kernel_rfl)
-- (*midden/heap.Heap).clear
noncomputable def d113 : AFd := mkAFd Tryz.f113 [(6, .q 0 (.q 1 (.q 2 (.q 3 (.q 4 (.q 5 (.q 6 (.q 7 (.br (.alt 8 [] (.q 9 (.q 10 (.q 11 (.q 12 (.q 13 (.done)))))) (.nil))))))))))), (7, .q 0 (.q 1 (.q 2 (.q 3 (.q 4 (.q 5 (.q 6 (.q 7 (.q 8 (.q 9 (.q 10 (.q 11 (.q 12 (.br (.alt 13 [0, 1, 2, 3, 4, 5, 6, 7, 8, 9, 10, 11] (.br (.alt 14 [0, 1, 2, 3, 4] (.q 15 (.br (.alt 16 [] (.done) (.nil)))) (.nil))) (.nil))))))))))))))))]
theorem k113 : AFdOk Tryz.prog 113 d113 := AFdOk.mk Tryz.func113 rfl rfl (by kernel_rfl)
-- (*midden/arena.Arena).Len
noncomputable def d114 : AFd := mkAFd Tryz.f114 []
theorem k114 : AFdOk Tryz.prog 114 d114 := AFdOk.mk Tryz.func114 rfl rfl (by kernel_rfl)
-- (*midden/heap.Heap).wrong
noncomputable def d115 : AFd := mkAFd Tryz.f115 []
theorem k115 : AFdOk Tryz.prog 115 d115 := AFdOk.mk Tryz.func115 rfl rfl (by kernel_rfl)
-- midden/shape.Right
noncomputable def d116 : AFd := mkAFd Tryz.f116 []
theorem k116 : AFdOk Tryz.prog 116 d116 := AFdOk.mk Tryz.func116 rfl rfl (by kernel_rfl)
-- (*midden/heap.Heap).has
noncomputable def d117 : AFd := mkAFd Tryz.f117 []
theorem k117 : AFdOk Tryz.prog 117 d117 := AFdOk.mk Tryz.func117 rfl rfl (by kernel_rfl)
-- (*midden/heap.Heap).put
noncomputable def d118 : AFd := mkAFd Tryz.f118 [(1, .q 0 (.q 1 (.q 2 (.q 3 (.q 4 (.q 5 (.q 6 (.q 7 (.q 8 (.q 9 (.q 10 (.q 11 (.q 12 (.br (.alt 13 [0, 1, 2, 3, 4, 5, 6, 7, 8, 9, 10, 11] (.br (.alt 14 [] (.q 15 (.q 16 (.q 17 (.q 18 (.q 19 (.done)))))) (.nil))) (.nil)))))))))))))))), (13, .q 0 (.q 1 (.q 2 (.q 3 (.q 4 (.q 5 (.q 6 (.q 7 (.q 8 (.q 9 (.q 10 (.q 11 (.br (.alt 12 [] (.done) (.nil))))))))))))))), (15, .q 0 (.q 1 (.q 2 (.q 3 (.q 4 (.q 5 (.br (.alt 6 [] (.done) (.nil)))))))))]
theorem k118 : AFdOk Tryz.prog 118 d118 := AFdOk.mk Tryz.func118 rfl rfl (by kernel_rfl)
-- (*midden/machine.Machine).wrong
noncomputable def d119 : AFd := mkAFd Tryz.f119 []
theorem k119 : AFdOk Tryz.prog 119 d119 := AFdOk.mk Tryz.func119 rfl rfl (by kernel_rfl)
-- (*midden/stable.Table).Len
noncomputable def d120 : AFd := mkAFd Tryz.f120 []
theorem k120 : AFdOk Tryz.prog 120 d120 := AFdOk.mk Tryz.func120 rfl rfl (by kernel_rfl)
-- (*midden/stable.Table).Make
noncomputable def d121 : AFd := mkAFd Tryz.f121 []
theorem k121 : AFdOk Tryz.prog 121 d121 := AFdOk.mk Tryz.func121 rfl rfl (by kernel_rfl)
-- (*midden/machine.Machine).Make$1
noncomputable def d123 : AFd := mkAFd Tryz.f123 [(1, .q 0 (.q 1 (.q 2 (.q 3 (.q 4 (.q 5 (.q 6 (.br (.alt 7 [] (.q 8 (.done)) (.nil))))))))))]
theorem k123 : AFdOk Tryz.prog 123 d123 := AFdOk.mk Tryz.func123 rfl rfl (by kernel_rfl)
-- (*midden/machine.Machine).some
noncomputable def d122 : AFd := mkAFd Tryz.f122 []
theorem k122 : AFdOk Tryz.prog 122 d122 := AFdOk.mk Tryz.func122 rfl rfl (by kernel_rfl)
-- (*midden/machine.Machine).die
noncomputable def d125 : AFd := mkAFd Tryz.f125 []
theorem k125 : AFdOk Tryz.prog 125 d125 := AFdOk.mk Tryz.func125 rfl rfl (by kernel_rfl)
-- (*midden/stable.Table).Get
noncomputable def d126 : AFd := mkAFd Tryz.f126 []
theorem k126 : AFdOk Tryz.prog 126 d126 := AFdOk.mk Tryz.func126 rfl rfl (by kernel_rfl)
-- (*midden/machine.Machine).look
noncomputable def d127 : AFd := mkAFd Tryz.f127 []
theorem k127 : AFdOk Tryz.prog 127 d127 := AFdOk.mk Tryz.func127 rfl rfl (by kernel_rfl)
-- (*midden/machine.Machine).insn
noncomputable def d130 : AFd := mkAFd Tryz.f130 [(6, .q 0 (.q 1 (.q 2 (.q 3 (.q 5 (.q 6 (.q 7 (.br (.alt 4 [0, 5, 6, 7] (.br (.alt 8 [0] (.br (.alt 9 [] (.done) (.nil))) (.nil))) (.nil)))))))))), (8, .q 0 (.q 1 (.q 2 (.q 3 (.br (.alt 4 [0] (.br (.alt 5 [] (.done) (.nil))) (.nil))))))), (10, .q 0 (.q 1 (.q 2 (.q 3 (.q 4 (.q 5 (.br (.alt 6 [0, 1, 2] (.br (.alt 7 [0] (.br (.alt 8 [] (.done) (.nil))) (.nil))) (.nil))))))))), (11, .q 0 (.q 1 (.q 2 (.q 3 (.q 4 (.q 5 (.q 6 (.q 7 (.q 8 (.br (.alt 9 [0, 1, 2, 3, 4, 5] (.br (.alt 10 [] (.done) (.nil))) (.nil)))))))))))), (15, .q 0 (.q 1 (.q 2 (.q 3 (.q 4 (.q 5 (.br (.alt 6 [0, 1, 2] (.br (.alt 7 [] (.q 8 (.done)) (.nil))) (.nil)))))))))]
theorem k130 : AFdOk Tryz.prog 130 d130 := AFdOk.mk Tryz.func130 rfl rfl (by kernel_rfl)
-- (*midden/machine.Machine).go1
noncomputable def d131 : AFd := mkAFd Tryz.f131 [(1, .q 0 (.q 1 (.q 2 (.q 3 (.q 4 (.q 5 (.q 6 (.q 7 (.br (.alt 8 [] (.q 9 (.q 10 (.q 11 (.br (.alt 12 [0, 1, 2, 3, 4, 5, 6, 7, 9, 10, 11] (.br (.alt 13 [11] (.q 14 (.done)) (.nil))) (.nil)))))) (.alt 12 [0, 1, 2, 3, 4, 5, 6, 7] (.br (.alt 8 [] (.q 9 (.q 10 (.q 11 (.br (.alt 13 [11] (.q 14 (.done)) (.nil)))))) (.nil))) (.nil)))))))))))), (6, .q 0 (.q 1 (.q 2 (.q 3 (.q 4 (.q 5 (.q 6 (.q 7 (.q 8 (.br (.alt 9 [] (.q 10 (.q 11 (.q 12 (.q 13 (.q 14 (.done)))))) (.nil)))))))))))), (10, .q 0 (.q 1 (.q 2 (.q 3 (.q 4 (.q 5 (.q 6 (.q 7 (.br (.alt 8 [] (.done) (.nil))))))))))), (15, .q 0 (.q 1 (.q 2 (.q 3 (.q 4 (.q 5 (.q 6 (.q 7 (.br (.alt 8 [] (.q 9 (.q 10 (.q 11 (.q 12 (.q 13 (.done)))))) (.nil))))))))))), (21, .q 0 (.q 1 (.q 2 (.q 3 (.q 4 (.br (.alt 5 [] (.done) (.nil)))))))), (24, .q 0 (.q 1 (.q 2 (.q 3 (.q 4 (.q 5 (.q 6 (.q 7 (.q 8 (.q 9 (.br (.alt 10 [0, 1, 2, 3] (.br (.alt 11 [] (.done) (.nil))) (.nil))))))))))))), (28, .q 0 (.q 1 (.q 2 (.q 3 (.q 4 (.q 5 (.q 6 (.q 7 (.q 8 (.q 9 (.q 10 (.done)))))))))))), (31, .q 0 (.q 1 (.q 2 (.q 3 (.q 4 (.q 5 (.q 6 (.q 7 (.q 8 (.q 9 (.q 10 (.q 11 (.q 12 (.q 13 (.q 14 (.br (.alt 15 [8] (.br (.alt 16 [] (.q 17 (.q 18 (.done))) (.nil))) (.nil)))))))))))))))))), (33, .q 0 (.q 1 (.q 2 (.q 3 (.q 4 (.q 5 (.q 6 (.q 7 (.q 8 (.q 9 (.q 10 (.q 12 (.q 13 (.q 14 (.q 15 (.q 16 (.q 17 (.q 19 (.br (.alt 11 [0, 1, 2, 3, 4, 5, 6, 7, 8, 9, 10, 12, 13, 14, 15, 16, 17, 19] (.br (.alt 18 [0, 1, 2, 3, 4, 5, 6, 7, 8, 9, 10, 19] (.br (.alt 20 [0, 1, 2, 3, 4, 5, 6, 7, 8, 9, 10] (.br (.alt 21 [] (.done) (.nil))) (.nil))) (.nil))) (.nil)))))))))))))))))))))]
theorem k131 : AFdOk Tryz.prog 131 d131 := AFdOk.mk Tryz.func131 rfl rfl (by kernel_rfl)
-- (*midden/machine.Machine).back
noncomputable def d132 : AFd := mkAFd Tryz.f132 [(7, .q 0 (.q 1 (.q 2 (.q 3 (.q 4 (.q 5 (.q 6 (.q 7 (.q 8 (.q 9 (.q 10 (.q 11 (.br (.alt 12 [] (.done) (.nil))))))))))))))), (9, .q 0 (.q 1 (.q 2 (.q 3 (.q 4 (.q 5 (.q 6 (.br (.alt 7 [] (.done) (.nil)))))))))), (11, .q 0 (.q 1 (.q 2 (.q 3 (.q 4 (.q 5 (.q 6 (.q 7 (.q 8 (.br (.alt 9 [0, 1, 2, 3, 4] (.br (.alt 10 [0, 1, 2] (.br (.alt 11 [] (.done) (.nil))) (.nil))) (.nil)))))))))))), (16, .q 0 (.q 1 (.q 2 (.q 3 (.q 4 (.q 5 (.q 6 (.q 7 (.q 8 (.br (.alt 9 [] (.done) (.nil)))))))))))), (19, .q 0 (.q 1 (.q 2 (.q 3 (.q 4 (.q 5 (.q 6 (.q 7 (.br (.alt 8 [] (.q 9 (.q 10 (.q 11 (.br (.alt 12 [0, 1, 2, 3, 4, 5, 6, 7, 9, 10, 11] (.br (.alt 13 [11] (.q 14 (.done)) (.nil))) (.nil)))))) (.alt 12 [0, 1, 2, 3, 4, 5, 6, 7] (.br (.alt 8 [] (.q 9 (.q 10 (.q 11 (.br (.alt 13 [11] (.q 14 (.done)) (.nil)))))) (.nil))) (.nil)))))))))))), (22, .q 0 (.q 1 (.q 2 (.q 3 (.q 4 (.q 5 (.q 6 (.q 7 (.q 8 (.q 9 (.br (.alt 10 [] (.q 11 (.q 12 (.q 13 (.q 14 (.q 15 (.done)))))) (.nil)))))))))))))]
theorem k132 : AFdOk Tryz.prog 132 d132 := AFdOk.mk Tryz.func132 rfl rfl (by kernel_rfl)
-- (*midden/machine.Machine).fail
noncomputable def d133 : AFd := mkAFd Tryz.f133 [(3, .q 0 (.q 1 (.q 2 (.q 3 (.q 4 (.q 5 (.q 6 (.q 7 (.q 8 (.br (.alt 9 [] (.done) (.nil))))))))))))]
theorem k133 : AFdOk Tryz.prog 133 d133 := AFdOk.mk Tryz.func133 rfl rfl (by kernel_rfl)
-- (*midden/stable.Table).Free
noncomputable def d134 : AFd := mkAFd Tryz.f134 [(4, .q 0 (.q 1 (.q 2 (.q 3 (.q 4 (.q 5 (.q 6 (.q 7 (.q 8 (.q 9 (.q 10 (.q 11 (.q 12 (.q 13 (.br (.alt 14 [0, 1, 2, 3, 4] (.q 15 (.br (.alt 16 [] (.done) (.nil)))) (.nil)))))))))))))))))]
theorem k134 : AFdOk Tryz.prog 134 d134 := AFdOk.mk Tryz.func134 rfl rfl (by kernel_rfl)
-- (*midden/heap.Heap).Config
noncomputable def d128 : AFd := mkAFd Tryz.f128 []
theorem k128 : AFdOk Tryz.prog 128 d128 := AFdOk.mk Tryz.func128 rfl rfl (by kernel_rfl)
-- (*midden/machine.Machine).gather
noncomputable def d129 : AFd := mkAFd Tryz.f129 [(1, .q 0 (.q 1 (.q 2 (.q 3 (.q 4 (.q 5 (.br (.alt 6 [0, 1, 2, 3, 4] (.br (.alt 7 [] (.q 8 (.q 9 (.q 10 (.br (.alt 11 [0, 1, 2, 3, 4, 5, 8, 9, 10] (.br (.alt 12 [10] (.q 13 (.done)) (.nil))) (.nil)))))) (.alt 11 [0, 1, 2, 3, 4, 5] (.br (.alt 7 [] (.q 8 (.q 9 (.q 10 (.br (.alt 12 [10] (.q 13 (.done)) (.nil)))))) (.nil))) (.nil)))) (.alt 11 [0, 1, 2, 3, 4, 5] (.br (.alt 6 [0, 1, 2, 3, 4] (.br (.alt 7 [] (.q 8 (.q 9 (.q 10 (.br (.alt 12 [10] (.q 13 (.done)) (.nil)))))) (.nil))) (.nil))) (.nil))))))))))]
theorem k129 : AFdOk Tryz.prog 129 d129 := AFdOk.mk Tryz.func129 rfl rfl (by kernel_rfl)
-- (*midden/tree.parser).next
noncomputable def d135 : AFd := mkAFd Tryz.f135 [(1, .q 0 (.q 1 (.q 2 (.q 3 (.q 4 (.q 5 (.q 6 (.q 7 (.q 8 (.q 9 (.done))))))))))), (2, .q 0 (.q 1 (.q 2 (.q 3 (.q 4 (.q 5 (.q 6 (.q 7 (.q 8 (.q 9 (.br (.alt 10 [] (.done) (.nil)))))))))))))]
theorem k135 : AFdOk Tryz.prog 135 d135 := AFdOk.mk Tryz.func135 rfl rfl (by kernel_rfl)
-- (*midden/tree.parser).fail
noncomputable def d136 : AFd := mkAFd Tryz.f136 []
theorem k136 : AFdOk Tryz.prog 136 d136 := AFdOk.mk Tryz.func136 rfl rfl (by kernel_rfl)
-- (*midden/tree.parser).form
noncomputable def d137 : AFd := mkAFd Tryz.f137 [(4, .q 0 (.q 2 (.q 3 (.br (.alt 1 [2, 3] (.br (.alt 4 [] (.q 5 (.br (.alt 6 [] (.done) (.nil)))) (.nil))) (.nil))))))]
theorem k137 : AFdOk Tryz.prog 137 d137 := AFdOk.mk Tryz.func137 rfl rfl (by kernel_rfl)
-- midden/scope.empty
noncomputable def d138 : AFd := mkAFd Tryz.f138 []
theorem k138 : AFdOk Tryz.prog 138 d138 := AFdOk.mk Tryz.func138 rfl rfl (by kernel_rfl)
-- (*midden/scope.checker).form$1
noncomputable def d140 : AFd := mkAFd Tryz.f140 [(1, .q 0 (.q 1 (.q 2 (.q 3 (.q 4 (.q 5 (.q 6 (.q 7 (.q 8 (.q 9 (.done)))))))))))]
theorem k140 : AFdOk Tryz.prog 140 d140 := AFdOk.mk Tryz.func140 rfl rfl (by kernel_rfl)
-- midden/scope.twice
noncomputable def d139 : AFd := mkAFd Tryz.f139 []
theorem k139 : AFdOk Tryz.prog 139 d139 := AFdOk.mk Tryz.func139 rfl rfl (by kernel_rfl)
-- (*midden/scope.checker).exp
noncomputable def d141 : AFd := mkAFd Tryz.f141 [(9, .q 0 (.q 1 (.q 2 (.q 3 (.q 4 (.q 5 (.q 6 (.q 7 (.q 8 (.q 9 (.q 10 (.q 11 (.done))))))))))))), (17, .q 0 (.q 1 (.q 2 (.q 3 (.q 5 (.br (.alt 4 [0, 1, 2, 5] (.br (.alt 6 [0, 1, 2] (.br (.alt 7 [] (.done) (.nil))) (.nil))) (.nil))))))))]
theorem k141 : AFdOk Tryz.prog 141 d141 := AFdOk.mk Tryz.func141 rfl rfl (by kernel_rfl)
-- (*midden/gen.scheme).exp
noncomputable def d106 : AFd := mkAFd Tryz.f106 [(8, .q 0 (.q 1 (.q 2 (.q 3 (.q 4 (.q 5 (.q 6 (.q 7 (.q 8 (.q 9 (.q 10 (.q 11 (.q 12 (.br (.alt 13 [0, 1, 2, 3, 4, 5, 6, 7] (.br (.alt 14 [0] (.br (.alt 15 [0] (.br (.alt 16 [] (.br (.alt 17 [] (.done) (.nil))) (.nil))) (.nil))) (.nil))) (.nil)))))))))))))))), (16, .q 0 (.q 1 (.q 3 (.q 4 (.q 5 (.q 6 (.q 7 (.q 8 (.q 9 (.q 10 (.q 11 (.br (.alt 2 [3, 4, 5, 6, 7, 8, 9, 10, 11] (.br (.alt 12 [3, 4, 5, 6] (.br (.alt 13 [] (.br (.alt 14 [0, 1, 3, 4, 5, 6, 7, 8, 9, 10, 11] (.br (.alt 15 [] (.done) (.nil))) (.nil))) (.alt 14 [0, 1, 3, 4, 5, 6, 7, 8, 9, 10, 11] (.br (.alt 13 [] (.br (.alt 15 [] (.done) (.nil))) (.nil))) (.nil)))) (.alt 14 [0, 1, 3, 4, 5, 6, 7, 8, 9, 10, 11] (.br (.alt 12 [3, 4, 5, 6] (.br (.alt 13 [] (.br (.alt 15 [] (.done) (.nil))) (.nil))) (.nil))) (.nil)))) (.alt 14 [0, 1, 3, 4, 5, 6, 7, 8, 9, 10, 11] (.br (.alt 2 [3, 4, 5, 6, 7, 8, 9, 10, 11] (.br (.alt 12 [3, 4, 5, 6] (.br (.alt 13 [] (.br (.alt 15 [] (.done) (.nil))) (.nil))) (.nil))) (.nil))) (.nil)))))))))))))))]
theorem k106 : AFdOk Tryz.prog 106 d106 := AFdOk.mk Tryz.func106 rfl rfl (by kernel_rfl)
-- (*midden/code.checker).there
noncomputable def d149 : AFd := mkAFd Tryz.f149 []
theorem k149 : AFdOk Tryz.prog 149 d149 := AFdOk.mk Tryz.func149 rfl rfl (by kernel_rfl)
-- (*midden/code.checker).kinds
noncomputable def d151 : AFd := mkAFd Tryz.f151 []
theorem k151 : AFdOk Tryz.prog 151 d151 := AFdOk.mk Tryz.func151 rfl rfl (by kernel_rfl)
-- (*midden/code.checker).size
noncomputable def d152 : AFd := mkAFd Tryz.f152 []
theorem k152 : AFdOk Tryz.prog 152 d152 := AFdOk.mk Tryz.func152 rfl rfl (by kernel_rfl)
-- (*midden/code.checker).many
noncomputable def d153 : AFd := mkAFd Tryz.f153 []
theorem k153 : AFdOk Tryz.prog 153 d153 := AFdOk.mk Tryz.func153 rfl rfl (by kernel_rfl)
-- (*midden/code.checker).named
noncomputable def d154 : AFd := mkAFd Tryz.f154 [(7, .q 0 (.q 1 (.br (.alt 2 [] (.q 3 (.q 4 (.q 5 (.q 6 (.q 7 (.q 8 (.q 9 (.br (.alt 10 [] (.q 11 (.q 12 (.q 13 (.q 14 (.q 15 (.q 16 (.q 17 (.q 18 (.q 19 (.q 20 (.q 21 (.q 22 (.q 23 (.q 24 (.q 25 (.q 26 (.q 27 (.q 28 (.q 29 (.q 30 (.q 31 (.q 32 (.q 33 (.done)))))))))))))))))))))))) (.nil)))))))))) (.nil)))))]
theorem k154 : AFdOk Tryz.prog 154 d154 := AFdOk.mk Tryz.func154 rfl rfl (by kernel_rfl)
-- (*midden/code.checker).places
noncomputable def d155 : AFd := mkAFd Tryz.f155 []
theorem k155 : AFdOk Tryz.prog 155 d155 := AFdOk.mk Tryz.func155 rfl rfl (by kernel_rfl)
-- (*midden/code.checker).ways
noncomputable def d156 : AFd := mkAFd Tryz.f156 [(5, .q 0 (.q 1 (.q 2 (.q 3 (.q 4 (.q 5 (.q 6 (.q 7 (.q 8 (.q 9 (.q 10 (.q 11 (.q 12 (.q 13 (.q 14 (.q 15 (.q 16 (.q 17 (.q 18 (.q 19 (.q 20 (.done)))))))))))))))))))))), (7, .q 0 (.q 1 (.q 2 (.q 3 (.q 4 (.q 5 (.q 6 (.q 7 (.q 8 (.q 9 (.q 10 (.done)))))))))))), (9, .q 0 (.q 1 (.q 2 (.q 3 (.q 4 (.q 5 (.q 6 (.q 7 (.q 8 (.q 9 (.q 10 (.q 11 (.q 12 (.q 13 (.q 14 (.q 15 (.q 16 (.q 17 (.q 18 (.q 19 (.q 20 (.q 21 (.q 22 (.q 23 (.q 24 (.q 25 (.q 26 (.q 27 (.q 28 (.q 29 (.q 30 (.q 31 (.q 32 (.q 33 (.q 34 (.done)))))))))))))))))))))))))))))))))))), (16, .q 0 (.q 1 (.q 2 (.q 3 (.q 4 (.q 5 (.q 6 (.q 7 (.q 8 (.q 9 (.q 10 (.q 11 (.br (.alt 12 [] (.done) (.nil))))))))))))))), (17, .q 0 (.q 1 (.q 2 (.q 3 (.q 4 (.q 5 (.q 6 (.q 7 (.q 8 (.q 9 (.q 10 (.q 11 (.q 12 (.q 13 (.q 14 (.br (.alt 15 [] (.done) (.nil))))))))))))))))))]
theorem k156 : AFdOk Tryz.prog 156 d156 := AFdOk.mk Tryz.func156 rfl rfl (by kernel_rfl)
-- midden/code.first
noncomputable def d150 : AFd := mkAFd Tryz.f150 []
theorem k150 : AFdOk Tryz.prog 150 d150 := AFdOk.mk Tryz.func150 rfl rfl (by kernel_rfl)
-- (*midden/pool.Pool).runs
noncomputable def d157 : AFd := mkAFd Tryz.f157 []
theorem k157 : AFdOk Tryz.prog 157 d157 := AFdOk.mk Tryz.func157 rfl rfl (by kernel_rfl)
-- midden/bump.New
noncomputable def d158 : AFd := mkAFd Tryz.f158 []
theorem k158 : AFdOk Tryz.prog 158 d158 := AFdOk.mk Tryz.func158 rfl rfl (by kernel_rfl)
-- midden/shape.of
noncomputable def d159 : AFd := mkAFd Tryz.f159 []
theorem k159 : AFdOk Tryz.prog 159 d159 := AFdOk.mk Tryz.func159 rfl rfl (by kernel_rfl)
-- midden/shape.Size
noncomputable def d161 : AFd := mkAFd Tryz.f161 []
theorem k161 : AFdOk Tryz.prog 161 d161 := AFdOk.mk Tryz.func161 rfl rfl (by kernel_rfl)
-- (*midden/bump.Space).Lay
noncomputable def d160 : AFd := mkAFd Tryz.f160 [(20, .q 0 (.q 1 (.q 2 (.q 3 (.q 4 (.q 5 (.q 6 (.q 9 (.q 10 (.q 11 (.q 12 (.q 13 (.br (.alt 7 [0, 1, 2, 3, 4, 5, 9, 10, 11, 12, 13] (.br (.alt 8 [0, 1, 9, 10, 11, 12, 13] (.br (.alt 14 [0, 1, 2, 3, 4, 5, 6, 9, 10, 11, 12] (.br (.alt 15 [0, 1] (.q 16 (.q 17 (.br (.alt 18 [1] (.q 19 (.q 20 (.br (.alt 21 [] (.done) (.nil))))) (.nil))))) (.nil))) (.nil))) (.alt 14 [0, 1, 2, 3, 4, 5, 6, 9, 10, 11, 12] (.br (.alt 8 [0, 1, 9, 10, 11, 12, 13] (.br (.alt 15 [0, 1] (.q 16 (.q 17 (.br (.alt 18 [1] (.q 19 (.q 20 (.br (.alt 21 [] (.done) (.nil))))) (.nil))))) (.nil))) (.nil))) (.nil)))) (.alt 14 [0, 1, 2, 3, 4, 5, 6, 9, 10, 11, 12] (.br (.alt 7 [0, 1, 2, 3, 4, 5, 9, 10, 11, 12, 13] (.br (.alt 8 [0, 1, 9, 10, 11, 12, 13] (.br (.alt 15 [0, 1] (.q 16 (.q 17 (.br (.alt 18 [1] (.q 19 (.q 20 (.br (.alt 21 [] (.done) (.nil))))) (.nil))))) (.nil))) (.nil))) (.nil))) (.nil))))))))))))))))]
theorem k160 : AFdOk Tryz.prog 160 d160 := AFdOk.mk Tryz.func160 rfl rfl (by kernel_rfl)
-- (*midden/heap.Heap).head
noncomputable def d162 : AFd := mkAFd Tryz.f162 []
theorem k162 : AFdOk Tryz.prog 162 d162 := AFdOk.mk Tryz.func162 rfl rfl (by kernel_rfl)
-- (*midden/arena.Arena).Write
noncomputable def d163 : AFd := mkAFd Tryz.f163 []
theorem k163 : AFdOk Tryz.prog 163 d163 := AFdOk.mk Tryz.func163 rfl rfl (by kernel_rfl)
-- (*midden/stable.Table).All
noncomputable def d164 : AFd := mkAFd Tryz.f164 []
theorem k164 : AFdOk Tryz.prog 164 d164 := AFdOk.mk Tryz.func164 rfl rfl (by kernel_rfl)
-- midden/stable.address
noncomputable def d165 : AFd := mkAFd Tryz.f165 []
theorem k165 : AFdOk Tryz.prog 165 d165 := AFdOk.mk Tryz.func165 rfl rfl (by kernel_rfl)
-- (*midden/machine.Machine).lay
noncomputable def d124 : AFd := mkAFd Tryz.f124 [(1, .q 0 (.q 1 (.q 2 (.q 3 (.q 4 (.q 5 (.q 6 (.br (.alt 7 [] (.q 8 (.q 9 (.q 10 (.q 11 (.q 12 (.done)))))) (.nil))))))))))]
theorem k124 : AFdOk Tryz.prog 124 d124 := AFdOk.mk Tryz.func124 rfl rfl (by kernel_rfl)
-- (*midden/machine.Machine).room
noncomputable def d166 : AFd := mkAFd Tryz.f166 [(3, .q 0 (.q 1 (.q 2 (.q 3 (.q 4 (.q 5 (.br (.alt 6 [0, 1] (.q 7 (.q 8 (.done))) (.nil)))))))))]
theorem k166 : AFdOk Tryz.prog 166 d166 := AFdOk.mk Tryz.func166 rfl rfl (by kernel_rfl)
-- (*midden/machine.Machine).finish
noncomputable def d167 : AFd := mkAFd Tryz.f167 []
theorem k167 : AFdOk Tryz.prog 167 d167 := AFdOk.mk Tryz.func167 rfl rfl (by kernel_rfl)
-- (*midden/stable.Table).find
noncomputable def d168 : AFd := mkAFd Tryz.f168 []
theorem k168 : AFdOk Tryz.prog 168 d168 := AFdOk.mk Tryz.func168 rfl rfl (by kernel_rfl)
-- (*midden/machine.Machine).enter
noncomputable def d169 : AFd := mkAFd Tryz.f169 []
theorem k169 : AFdOk Tryz.prog 169 d169 := AFdOk.mk Tryz.func169 rfl rfl (by kernel_rfl)
-- (*midden/machine.Machine).insn$1
noncomputable def d174 : AFd := mkAFd Tryz.f174 []
theorem k174 : AFdOk Tryz.prog 174 d174 := AFdOk.mk Tryz.func174 rfl rfl (by kernel_rfl)
-- (*midden/machine.Machine).place
noncomputable def d176 : AFd := mkAFd Tryz.f176 []
theorem k176 : AFdOk Tryz.prog 176 d176 := AFdOk.mk Tryz.func176 rfl rfl (by kernel_rfl)
-- (*midden/machine.Machine).places
noncomputable def d177 : AFd := mkAFd Tryz.f177 []
theorem k177 : AFdOk Tryz.prog 177 d177 := AFdOk.mk Tryz.func177 rfl rfl (by kernel_rfl)
-- (*midden/machine.Machine).push
noncomputable def d178 : AFd := mkAFd Tryz.f178 [(1, .q 0 (.q 1 (.q 2 (.q 3 (.q 4 (.br (.alt 5 [] (.q 6 (.done)) (.nil))))))))]
theorem k178 : AFdOk Tryz.prog 178 d178 := AFdOk.mk Tryz.func178 rfl rfl (by kernel_rfl)
-- (*midden/machine.Machine).jump
noncomputable def d179 : AFd := mkAFd Tryz.f179 []
theorem k179 : AFdOk Tryz.prog 179 d179 := AFdOk.mk Tryz.func179 rfl rfl (by kernel_rfl)
-- (*midden/machine.Machine).arms
noncomputable def d180 : AFd := mkAFd Tryz.f180 [(1, .q 0 (.q 1 (.q 2 (.q 3 (.q 4 (.q 5 (.q 6 (.q 7 (.q 8 (.q 9 (.q 10 (.q 11 (.q 12 (.done))))))))))))))]
theorem k180 : AFdOk Tryz.prog 180 d180 := AFdOk.mk Tryz.func180 rfl rfl (by kernel_rfl)
-- (*midden/machine.Machine).need
noncomputable def d181 : AFd := mkAFd Tryz.f181 []
theorem k181 : AFdOk Tryz.prog 181 d181 := AFdOk.mk Tryz.func181 rfl rfl (by kernel_rfl)
-- (*midden/heap.Heap).Head
noncomputable def d182 : AFd := mkAFd Tryz.f182 []
theorem k182 : AFdOk Tryz.prog 182 d182 := AFdOk.mk Tryz.func182 rfl rfl (by kernel_rfl)
-- (*midden/heap.Heap).Ptr
noncomputable def d183 : AFd := mkAFd Tryz.f183 []
theorem k183 : AFdOk Tryz.prog 183 d183 := AFdOk.mk Tryz.func183 rfl rfl (by kernel_rfl)
-- (*midden/heap.Heap).Non
noncomputable def d184 : AFd := mkAFd Tryz.f184 []
theorem k184 : AFdOk Tryz.prog 184 d184 := AFdOk.mk Tryz.func184 rfl rfl (by kernel_rfl)
-- midden/shape.Thunk
noncomputable def d185 : AFd := mkAFd Tryz.f185 []
theorem k185 : AFdOk Tryz.prog 185 d185 := AFdOk.mk Tryz.func185 rfl rfl (by kernel_rfl)
-- (*midden/machine.Machine).thunk
noncomputable def d186 : AFd := mkAFd Tryz.f186 [(3, .q 0 (.q 1 (.q 2 (.q 3 (.q 4 (.q 5 (.q 6 (.q 7 (.br (.alt 8 [] (.q 9 (.q 10 (.q 11 (.q 12 (.q 13 (.done)))))) (.nil))))))))))), (4, .q 0 (.q 1 (.q 2 (.q 3 (.q 4 (.q 5 (.q 6 (.q 7 (.br (.alt 8 [] (.done) (.nil))))))))))), (7, .q 0 (.q 1 (.q 2 (.q 3 (.q 4 (.q 5 (.q 6 (.q 7 (.q 8 (.q 9 (.q 10 (.q 11 (.br (.alt 12 [] (.done) (.nil))))))))))))))), (9, .q 0 (.q 1 (.q 2 (.q 3 (.q 4 (.q 5 (.br (.alt 6 [] (.done) (.nil)))))))))]
theorem k186 : AFdOk Tryz.prog 186 d186 := AFdOk.mk Tryz.func186 rfl rfl (by kernel_rfl)
-- (*midden/machine.Machine).tell
noncomputable def d187 : AFd := mkAFd Tryz.f187 []
theorem k187 : AFdOk Tryz.prog 187 d187 := AFdOk.mk Tryz.func187 rfl rfl (by kernel_rfl)
-- (*midden/machine.Machine).go1$1
noncomputable def d189 : AFd := mkAFd Tryz.f189 [(1, .q 0 (.q 1 (.q 2 (.q 3 (.q 4 (.q 5 (.q 6 (.q 8 (.q 9 (.q 10 (.q 11 (.q 13 (.q 14 (.q 15 (.q 16 (.br (.alt 7 [0, 8, 9, 10, 11, 13, 14, 15, 16] (.br (.alt 12 [0, 1, 2, 3, 4, 5, 6, 13, 14, 15, 16] (.br (.alt 17 [0, 1, 2, 3, 4, 5, 6] (.br (.alt 18 [] (.q 19 (.q 20 (.q 21 (.q 22 (.done))))) (.nil))) (.nil))) (.nil))) (.alt 12 [0, 1, 2, 3, 4, 5, 6, 13, 14, 15, 16] (.br (.alt 7 [0, 8, 9, 10, 11, 13, 14, 15, 16] (.br (.alt 17 [0, 1, 2, 3, 4, 5, 6] (.br (.alt 18 [] (.q 19 (.q 20 (.q 21 (.q 22 (.done))))) (.nil))) (.nil))) (.alt 17 [0, 1, 2, 3, 4, 5, 6] (.br (.alt 7 [0, 8, 9, 10, 11, 13, 14, 15, 16] (.br (.alt 18 [] (.q 19 (.q 20 (.q 21 (.q 22 (.done))))) (.nil))) (.nil))) (.nil)))) (.nil)))))))))))))))))))]
theorem k189 : AFdOk Tryz.prog 189 d189 := AFdOk.mk Tryz.func189 rfl rfl (by kernel_rfl)
-- (*midden/machine.Machine).told
noncomputable def d188 : AFd := mkAFd Tryz.f188 []
theorem k188 : AFdOk Tryz.prog 188 d188 := AFdOk.mk Tryz.func188 rfl rfl (by kernel_rfl)
-- (*midden/stack.Stack).Pop
noncomputable def d190 : AFd := mkAFd Tryz.f190 [(6, .q 0 (.q 1 (.q 2 (.q 3 (.q 4 (.q 5 (.q 6 (.q 7 (.q 8 (.q 9 (.q 10 (.br (.alt 11 [] (.done) (.nil))))))))))))))]
theorem k190 : AFdOk Tryz.prog 190 d190 := AFdOk.mk Tryz.func190 rfl rfl (by kernel_rfl)
-- (*midden/machine.Machine).read
noncomputable def d191 : AFd := mkAFd Tryz.f191 [(12, .q 0 (.q 1 (.q 2 (.q 3 (.q 4 (.q 5 (.q 6 (.q 7 (.q 8 (.q 9 (.br (.alt 10 [] (.br (.alt 11 [] (.done) (.nil))) (.nil))))))))))))), (17, .q 0 (.q 1 (.q 2 (.q 3 (.q 4 (.q 5 (.q 6 (.q 7 (.q 8 (.q 9 (.q 10 (.q 11 (.br (.alt 12 [0, 1, 2, 3, 4] (.br (.alt 13 [0, 1, 2, 3, 4] (.br (.alt 14 [0, 1, 2, 3, 4] (.br (.alt 15 [0] (.q 16 (.q 17 (.br (.alt 18 [] (.done) (.nil))))) (.nil))) (.nil))) (.nil))) (.nil))))))))))))))), (18, .q 0 (.q 1 (.q 2 (.q 3 (.q 4 (.q 5 (.q 6 (.q 7 (.q 8 (.q 9 (.q 10 (.q 11 (.q 12 (.done)))))))))))))), (19, .q 0 (.q 1 (.q 2 (.q 3 (.q 4 (.q 5 (.q 6 (.q 7 (.q 8 (.done)))))))))), (20, .q 0 (.q 1 (.q 2 (.q 3 (.q 4 (.q 5 (.q 6 (.q 7 (.q 8 (.q 9 (.q 10 (.q 11 (.br (.alt 12 [] (.q 13 (.q 14 (.q 15 (.q 16 (.q 17 (.done)))))) (.nil))))))))))))))), (24, .q 0 (.q 1 (.q 2 (.q 3 (.q 4 (.q 5 (.q 6 (.br (.alt 7 [0, 1, 2, 3, 4, 5, 6] (.br (.alt 8 [] (.q 9 (.q 11 (.q 12 (.q 13 (.br (.alt 10 [11, 12, 13] (.br (.alt 14 [9] (.done) (.nil))) (.alt 14 [9] (.br (.alt 10 [11, 12, 13] (.done) (.nil))) (.nil)))))))) (.nil))) (.nil)))))))))), (25, .q 0 (.q 1 (.q 2 (.q 3 (.q 4 (.q 5 (.q 6 (.q 7 (.q 8 (.q 9 (.q 10 (.q 11 (.q 12 (.q 13 (.br (.alt 14 [] (.done) (.nil))))))))))))))))), (28, .q 0 (.q 1 (.q 2 (.q 3 (.q 4 (.q 5 (.q 6 (.q 7 (.q 8 (.q 9 (.q 10 (.q 11 (.q 12 (.done)))))))))))))), (29, .q 0 (.q 1 (.q 2 (.q 3 (.q 4 (.q 5 (.q 6 (.q 7 (.q 8 (.q 9 (.br (.alt 10 [0, 1, 2, 3, 4, 5, 6, 7, 8, 9] (.br (.alt 11 [] (.q 12 (.q 14 (.q 15 (.q 16 (.br (.alt 13 [14, 15, 16] (.br (.alt 17 [12] (.done) (.nil))) (.alt 17 [12] (.br (.alt 13 [14, 15, 16] (.done) (.nil))) (.nil)))))))) (.nil))) (.nil)))))))))))))]
theorem k191 : AFdOk Tryz.prog 191 d191 := AFdOk.mk Tryz.func191 rfl rfl (by kernel_rfl)
-- (*midden/heap.Heap).Pass
noncomputable def d192 : AFd := mkAFd Tryz.f192 []
theorem k192 : AFdOk Tryz.prog 192 d192 := AFdOk.mk Tryz.func192 rfl rfl (by kernel_rfl)
-- midden/prim.Need
noncomputable def d194 : AFd := mkAFd Tryz.f194 []
theorem k194 : AFdOk Tryz.prog 194 d194 := AFdOk.mk Tryz.func194 rfl rfl (by kernel_rfl)
-- (*midden/machine.Machine).fits
noncomputable def d193 : AFd := mkAFd Tryz.f193 [(1, .q 0 (.q 1 (.q 2 (.q 3 (.q 4 (.q 5 (.q 6 (.q 7 (.br (.alt 8 [] (.q 9 (.q 10 (.q 11 (.br (.alt 12 [0, 1, 2, 3, 4, 5, 6, 7, 9, 10, 11] (.br (.alt 13 [11] (.q 14 (.done)) (.nil))) (.nil)))))) (.alt 12 [0, 1, 2, 3, 4, 5, 6, 7] (.br (.alt 8 [] (.q 9 (.q 10 (.q 11 (.br (.alt 13 [11] (.q 14 (.done)) (.nil)))))) (.nil))) (.nil))))))))))))]
theorem k193 : AFdOk Tryz.prog 193 d193 := AFdOk.mk Tryz.func193 rfl rfl (by kernel_rfl)
-- (*midden/stack.Stack).Len
noncomputable def d195 : AFd := mkAFd Tryz.f195 []
theorem k195 : AFdOk Tryz.prog 195 d195 := AFdOk.mk Tryz.func195 rfl rfl (by kernel_rfl)
-- (*midden/heap.Heap).Fail
noncomputable def d196 : AFd := mkAFd Tryz.f196 []
theorem k196 : AFdOk Tryz.prog 196 d196 := AFdOk.mk Tryz.func196 rfl rfl (by kernel_rfl)
-- (*midden/machine.Machine).Roots
noncomputable def d171 : AFd := mkAFd Tryz.f171 []
theorem k171 : AFdOk Tryz.prog 171 d171 := AFdOk.mk Tryz.func171 rfl rfl (by kernel_rfl)
-- midden/collect.Run
noncomputable def d170 : AFd := mkAFd Tryz.f170 [(42, .q 0 (.q 1 (.q 2 (.q 3 (.q 4 (.q 5 (.done)))))))]
theorem k170 : AFdOk Tryz.prog 170 d170 := AFdOk.mk Tryz.func170 rfl rfl (by kernel_rfl)
-- (*midden/machine.Machine).gather$1
noncomputable def d173 : AFd := mkAFd Tryz.f173 []
theorem k173 : AFdOk Tryz.prog 173 d173 := AFdOk.mk Tryz.func173 rfl rfl (by kernel_rfl)
-- (*midden/machine.Machine).each
noncomputable def d172 : AFd := mkAFd Tryz.f172 [(3, .q 0 (.q 1 (.q 2 (.q 3 (.q 4 (.q 5 (.q 6 (.br (.alt 7 [0, 1, 2, 3, 4] (.q 8 (.br (.alt 9 [] (.done) (.nil)))) (.nil)))))))))), (10, .q 0 (.q 1 (.q 2 (.q 3 (.q 4 (.q 5 (.q 6 (.br (.alt 7 [0, 1, 2, 3, 4] (.q 8 (.br (.alt 9 [] (.done) (.nil)))) (.nil)))))))))), (15, .q 0 (.q 1 (.q 2 (.q 3 (.q 4 (.q 5 (.q 6 (.br (.alt 7 [0, 1, 2, 3, 4] (.q 8 (.br (.alt 9 [] (.done) (.nil)))) (.nil))))))))))]
theorem k172 : AFdOk Tryz.prog 172 d172 := AFdOk.mk Tryz.func172 rfl rfl (by kernel_rfl)
-- (*midden/tree.parser).names
noncomputable def d197 : AFd := mkAFd Tryz.f197 []
theorem k197 : AFdOk Tryz.prog 197 d197 := AFdOk.mk Tryz.func197 rfl rfl (by kernel_rfl)
-- (*midden/tree.parser).exp
noncomputable def d198 : AFd := mkAFd Tryz.f198 [(10, .q 0 (.q 1 (.q 2 (.br (.alt 3 [0, 1] (.q 4 (.br (.alt 5 [] (.done) (.nil)))) (.nil)))))), (15, .q 0 (.q 1 (.q 2 (.q 3 (.q 4 (.q 5 (.q 6 (.br (.alt 7 [4, 5] (.q 8 (.br (.alt 9 [] (.done) (.nil)))) (.nil)))))))))), (22, .q 0 (.q 1 (.q 2 (.br (.alt 3 [0, 1] (.br (.alt 4 [0, 1] (.br (.alt 5 [] (.q 6 (.br (.alt 7 [] (.done) (.nil)))) (.nil))) (.nil))) (.nil)))))), (33, .q 0 (.q 1 (.q 2 (.br (.alt 3 [0, 1] (.br (.alt 4 [0, 1] (.br (.alt 5 [] (.q 6 (.br (.alt 7 [] (.done) (.nil)))) (.nil))) (.nil))) (.nil))))))]
theorem k198 : AFdOk Tryz.prog 198 d198 := AFdOk.mk Tryz.func198 rfl rfl (by kernel_rfl)
-- (*midden/scope.checker).atoms
noncomputable def d199 : AFd := mkAFd Tryz.f199 []
theorem k199 : AFdOk Tryz.prog 199 d199 := AFdOk.mk Tryz.func199 rfl rfl (by kernel_rfl)
-- midden/prim.Find
noncomputable def d145 : AFd := mkAFd Tryz.f145 []
theorem k145 : AFdOk Tryz.prog 145 d145 := AFdOk.mk Tryz.func145 rfl rfl (by kernel_rfl)
-- midden/prim.Arity
noncomputable def d200 : AFd := mkAFd Tryz.f200 []
theorem k200 : AFdOk Tryz.prog 200 d200 := AFdOk.mk Tryz.func200 rfl rfl (by kernel_rfl)
-- (*midden/scope.checker).let
noncomputable def d201 : AFd := mkAFd Tryz.f201 [(17, .q 0 (.q 1 (.q 2 (.q 3 (.q 4 (.q 5 (.br (.alt 6 [] (.done) (.nil)))))))))]
theorem k201 : AFdOk Tryz.prog 201 d201 := AFdOk.mk Tryz.func201 rfl rfl (by kernel_rfl)
-- (*midden/scope.checker).cases
noncomputable def d202 : AFd := mkAFd Tryz.f202 [(14, .q 0 (.q 1 (.q 2 (.q 3 (.q 4 (.q 5 (.q 6 (.br (.alt 7 [] (.done) (.nil))))))))))]
theorem k202 : AFdOk Tryz.prog 202 d202 := AFdOk.mk Tryz.func202 rfl rfl (by kernel_rfl)
-- (*midden/gen.scheme).put
noncomputable def d142 : AFd := mkAFd Tryz.f142 [(2, .q 0 (.q 1 (.q 2 (.q 3 (.q 4 (.q 5 (.q 6 (.br (.alt 7 [0, 1, 2, 3, 4, 5] (.br (.alt 8 [0] (.q 9 (.q 10 (.q 11 (.br (.alt 12 [] (.done) (.nil)))))) (.nil))) (.nil))))))))))]
theorem k142 : AFdOk Tryz.prog 142 d142 := AFdOk.mk Tryz.func142 rfl rfl (by kernel_rfl)
-- midden/gen.numbers
noncomputable def d143 : AFd := mkAFd Tryz.f143 []
theorem k143 : AFdOk Tryz.prog 143 d143 := AFdOk.mk Tryz.func143 rfl rfl (by kernel_rfl)
-- (*midden/gen.scheme).atoms
noncomputable def d144 : AFd := mkAFd Tryz.f144 []
theorem k144 : AFdOk Tryz.prog 144 d144 := AFdOk.mk Tryz.func144 rfl rfl (by kernel_rfl)
-- (*midden/gen.scheme).place
noncomputable def d146 : AFd := mkAFd Tryz.f146 []
theorem k146 : AFdOk Tryz.prog 146 d146 := AFdOk.mk Tryz.func146 rfl rfl (by kernel_rfl)
-- (*midden/gen.scheme).let
noncomputable def d147 : AFd := mkAFd Tryz.f147 [(21, .q 0 (.q 1 (.q 2 (.q 3 (.q 4 (.q 5 (.q 6 (.q 7 (.q 8 (.q 9 (.br (.alt 10 [] (.done) (.nil)))))))))))))]
theorem k147 : AFdOk Tryz.prog 147 d147 := AFdOk.mk Tryz.func147 rfl rfl (by kernel_rfl)
-- (*midden/gen.scheme).cases
noncomputable def d148 : AFd := mkAFd Tryz.f148 [(1, .q 0 (.q 1 (.q 2 (.q 3 (.q 5 (.q 7 (.q 8 (.q 9 (.br (.alt 4 [5, 7, 8, 9] (.br (.alt 6 [7, 8, 9] (.br (.alt 10 [] (.q 11 (.q 12 (.done))) (.nil))) (.nil))) (.nil))))))))))), (3, .q 0 (.q 1 (.q 2 (.q 3 (.q 4 (.q 6 (.q 8 (.q 9 (.br (.alt 5 [0, 1, 2, 3, 4, 6, 8, 9] (.br (.alt 7 [0, 1, 2, 3, 4, 8, 9] (.br (.alt 10 [] (.done) (.nil))) (.nil))) (.nil))))))))))), (12, .q 0 (.q 1 (.q 2 (.q 3 (.q 4 (.q 5 (.q 6 (.q 7 (.br (.alt 8 [] (.br (.alt 9 [0, 1, 2, 3, 4, 5, 6, 7] (.br (.alt 10 [] (.done) (.nil))) (.nil))) (.alt 9 [0, 1, 2, 3, 4, 5, 6, 7] (.br (.alt 8 [] (.br (.alt 10 [] (.done) (.nil))) (.nil))) (.nil)))))))))))), (16, .q 0 (.q 1 (.q 2 (.q 3 (.q 4 (.q 5 (.q 6 (.q 7 (.br (.alt 8 [] (.done) (.nil)))))))))))]
theorem k148 : AFdOk Tryz.prog 148 d148 := AFdOk.mk Tryz.func148 rfl rfl (by kernel_rfl)
-- (*midden/code.checker).need
noncomputable def d211 : AFd := mkAFd Tryz.f211 [(6, .q 0 (.q 1 (.q 2 (.q 3 (.q 4 (.q 5 (.q 6 (.q 7 (.q 8 (.q 9 (.q 10 (.done)))))))))))), (10, .q 0 (.q 1 (.q 2 (.q 3 (.q 4 (.q 5 (.q 6 (.q 7 (.q 8 (.q 9 (.q 10 (.q 11 (.q 12 (.q 13 (.q 14 (.q 15 (.q 16 (.q 17 (.q 18 (.q 19 (.q 20 (.q 21 (.q 22 (.q 23 (.q 24 (.q 25 (.q 26 (.q 27 (.q 28 (.done)))))))))))))))))))))))))))))), (12, .q 0 (.q 1 (.q 2 (.q 3 (.q 4 (.q 5 (.q 6 (.q 7 (.q 8 (.q 9 (.q 10 (.done))))))))))))]
theorem k211 : AFdOk Tryz.prog 211 d211 := AFdOk.mk Tryz.func211 rfl rfl (by kernel_rfl)
-- (*midden/code.checker).con
noncomputable def d212 : AFd := mkAFd Tryz.f212 []
theorem k212 : AFdOk Tryz.prog 212 d212 := AFdOk.mk Tryz.func212 rfl rfl (by kernel_rfl)
-- (*midden/code.checker).all
noncomputable def d213 : AFd := mkAFd Tryz.f213 []
theorem k213 : AFdOk Tryz.prog 213 d213 := AFdOk.mk Tryz.func213 rfl rfl (by kernel_rfl)
-- (*midden/pool.Pool).runs$1
noncomputable def d214 : AFd := mkAFd Tryz.f214 [(3, .q 0 (.q 1 (.q 2 (.q 3 (.q 4 (.q 5 (.q 6 (.q 7 (.q 8 (.q 9 (.q 10 (.q 11 (.q 12 (.q 13 (.q 14 (.br (.alt 15 [] (.done) (.nil))))))))))))))))))]
theorem k214 : AFdOk Tryz.prog 214 d214 := AFdOk.mk Tryz.func214 rfl rfl (by kernel_rfl)
-- (*midden/bump.Space).take
noncomputable def d216 : AFd := mkAFd Tryz.f216 []
theorem k216 : AFdOk Tryz.prog 216 d216 := AFdOk.mk Tryz.func216 rfl rfl (by kernel_rfl)
-- (*midden/arena.Arena).Clear
noncomputable def d217 : AFd := mkAFd Tryz.f217 []
theorem k217 : AFdOk Tryz.prog 217 d217 := AFdOk.mk Tryz.func217 rfl rfl (by kernel_rfl)
-- midden/word.Pack
noncomputable def d218 : AFd := mkAFd Tryz.f218 []
theorem k218 : AFdOk Tryz.prog 218 d218 := AFdOk.mk Tryz.func218 rfl rfl (by kernel_rfl)
-- (*midden/arena.Arena).at
noncomputable def d219 : AFd := mkAFd Tryz.f219 []
theorem k219 : AFdOk Tryz.prog 219 d219 := AFdOk.mk Tryz.func219 rfl rfl (by kernel_rfl)
-- (*midden/heap.Heap).Left
noncomputable def d220 : AFd := mkAFd Tryz.f220 []
theorem k220 : AFdOk Tryz.prog 220 d220 := AFdOk.mk Tryz.func220 rfl rfl (by kernel_rfl)
-- (*midden/machine.Machine).let
noncomputable def d175 : AFd := mkAFd Tryz.f175 [(9, .q 0 (.q 1 (.q 2 (.q 3 (.q 5 (.br (.alt 4 [0, 1, 5] (.br (.alt 6 [] (.q 7 (.q 8 (.q 9 (.q 10 (.q 11 (.done)))))) (.nil))) (.nil)))))))), (21, .q 0 (.q 1 (.q 2 (.q 3 (.q 4 (.q 5 (.q 6 (.q 7 (.q 8 (.q 9 (.q 10 (.q 11 (.q 12 (.q 13 (.q 14 (.q 15 (.br (.alt 16 [0, 1, 2, 3, 4, 5, 6, 7, 8, 9, 10, 11, 12, 13] (.br (.alt 17 [] (.done) (.nil))) (.nil)))))))))))))))))))]
theorem k175 : AFdOk Tryz.prog 175 d175 := AFdOk.mk Tryz.func175 rfl rfl (by kernel_rfl)
-- (*midden/stack.Stack).Push
noncomputable def d231 : AFd := mkAFd Tryz.f231 [(7, .q 0 (.q 1 (.q 2 (.q 3 (.q 4 (.q 5 (.q 6 (.q 7 (.q 8 (.q 9 (.q 10 (.q 11 (.done))))))))))))), (9, .q 0 (.q 1 (.q 2 (.q 3 (.q 4 (.q 5 (.q 6 (.q 7 (.q 8 (.q 9 (.done))))))))))), (15, .q 0 (.q 1 (.q 2 (.q 3 (.q 4 (.q 5 (.q 6 (.q 7 (.q 8 (.q 9 (.q 10 (.q 11 (.q 12 (.q 13 (.q 14 (.q 15 (.q 16 (.q 17 (.q 18 (.q 19 (.q 20 (.q 21 (.q 22 (.q 23 (.br (.alt 24 [] (.done) (.nil)))))))))))))))))))))))))))]
theorem k231 : AFdOk Tryz.prog 231 d231 := AFdOk.mk Tryz.func231 rfl rfl (by kernel_rfl)
-- (*midden/machine.Machine).do
noncomputable def d232 : AFd := mkAFd Tryz.f232 [(7, .q 0 (.q 1 (.q 2 (.q 3 (.q 4 (.q 5 (.br (.alt 6 [0, 1, 2, 3, 4] (.br (.alt 7 [0, 1, 2, 3, 4] (.br (.alt 8 [0] (.q 9 (.q 10 (.br (.alt 11 [] (.done) (.nil))))) (.nil))) (.nil))) (.nil))))))))), (8, .q 0 (.q 1 (.q 2 (.q 3 (.q 4 (.q 5 (.q 6 (.br (.alt 7 [] (.done) (.nil)))))))))), (10, .q 0 (.q 1 (.q 2 (.q 3 (.q 4 (.q 5 (.q 6 (.br (.alt 7 [] (.done) (.nil)))))))))), (14, .q 0 (.q 1 (.q 2 (.q 3 (.q 4 (.q 5 (.q 6 (.q 7 (.q 8 (.q 9 (.br (.alt 10 [] (.q 11 (.q 12 (.q 13 (.q 14 (.q 15 (.done)))))) (.nil))))))))))))), (17, .q 0 (.q 1 (.q 2 (.q 3 (.q 4 (.q 5 (.q 6 (.q 7 (.q 8 (.q 9 (.q 10 (.q 11 (.q 12 (.q 13 (.q 14 (.q 15 (.br (.alt 16 [] (.done) (.nil))))))))))))))))))), (28, .q 0 (.q 1 (.q 2 (.q 3 (.q 4 (.q 5 (.q 6 (.q 7 (.q 8 (.q 9 (.br (.alt 10 [] (.q 11 (.q 12 (.q 13 (.br (.alt 14 [0, 1, 2, 3, 4, 5, 6, 7, 8, 9, 11, 12, 13] (.br (.alt 15 [13] (.q 16 (.done)) (.nil))) (.nil)))))) (.alt 14 [0, 1, 2, 3, 4, 5, 6, 7, 8, 9] (.br (.alt 10 [] (.q 11 (.q 12 (.q 13 (.br (.alt 15 [13] (.q 16 (.done)) (.nil)))))) (.nil))) (.nil)))))))))))))), (2, .q 0 (.q 1 (.q 3 (.br (.alt 2 [0, 3] (.br (.alt 4 [0] (.br (.alt 5 [] (.q 6 (.q 7 (.q 8 (.q 9 (.q 10 (.done)))))) (.nil))) (.nil))) (.nil))))))]
theorem k232 : AFdOk Tryz.prog 232 d232 := AFdOk.mk Tryz.func232 rfl rfl (by kernel_rfl)
-- (*midden/heap.Heap).see
noncomputable def d233 : AFd := mkAFd Tryz.f233 []
theorem k233 : AFdOk Tryz.prog 233 d233 := AFdOk.mk Tryz.func233 rfl rfl (by kernel_rfl)
-- (*midden/heap.Heap).word
noncomputable def d234 : AFd := mkAFd Tryz.f234 []
theorem k234 : AFdOk Tryz.prog 234 d234 := AFdOk.mk Tryz.func234 rfl rfl (by kernel_rfl)
-- (*midden/heap.Heap).Hole
noncomputable def d235 : AFd := mkAFd Tryz.f235 []
theorem k235 : AFdOk Tryz.prog 235 d235 := AFdOk.mk Tryz.func235 rfl rfl (by kernel_rfl)
-- (*midden/machine.Machine).told$1
noncomputable def d236 : AFd := mkAFd Tryz.f236 []
theorem k236 : AFdOk Tryz.prog 236 d236 := AFdOk.mk Tryz.func236 rfl rfl (by kernel_rfl)
-- (*midden/stack.Stack).frame
noncomputable def d237 : AFd := mkAFd Tryz.f237 [(1, .q 0 (.q 1 (.q 2 (.q 3 (.q 4 (.q 5 (.q 6 (.q 7 (.q 8 (.q 9 (.q 10 (.br (.alt 11 [] (.q 12 (.q 13 (.q 14 (.q 15 (.q 16 (.done)))))) (.nil)))))))))))))), (7, .q 0 (.q 1 (.q 2 (.q 3 (.q 4 (.q 5 (.q 6 (.q 7 (.q 8 (.q 9 (.q 10 (.q 11 (.q 12 (.q 13 (.q 14 (.br (.alt 15 [] (.q 16 (.q 17 (.q 18 (.q 19 (.q 20 (.done)))))) (.nil))))))))))))))))))]
theorem k237 : AFdOk Tryz.prog 237 d237 := AFdOk.mk Tryz.func237 rfl rfl (by kernel_rfl)
-- (*midden/heap.Heap).thunk
noncomputable def d238 : AFd := mkAFd Tryz.f238 []
theorem k238 : AFdOk Tryz.prog 238 d238 := AFdOk.mk Tryz.func238 rfl rfl (by kernel_rfl)
-- (*midden/heap.Heap).next
noncomputable def d239 : AFd := mkAFd Tryz.f239 []
theorem k239 : AFdOk Tryz.prog 239 d239 := AFdOk.mk Tryz.func239 rfl rfl (by kernel_rfl)
-- (*midden/heap.Heap).over
noncomputable def d240 : AFd := mkAFd Tryz.f240 [(5, .q 0 (.q 1 (.q 2 (.q 3 (.q 4 (.q 5 (.br (.alt 6 [0, 1, 2, 3, 4] (.br (.alt 7 [] (.done) (.nil))) (.nil)))))))))]
theorem k240 : AFdOk Tryz.prog 240 d240 := AFdOk.mk Tryz.func240 rfl rfl (by kernel_rfl)
-- (*midden/heap.Heap).barrier
noncomputable def d241 : AFd := mkAFd Tryz.f241 [(0, .q 0 (.q 1 (.q 2 (.q 3 (.q 4 (.q 5 (.q 6 (.q 7 (.q 8 (.q 9 (.q 10 (.q 11 (.q 12 (.q 13 (.q 14 (.q 15 (.q 16 (.q 17 (.q 18 (.done)))))))))))))))))))), (1, .q 0 (.q 1 (.q 2 (.q 3 (.q 4 (.q 5 (.q 6 (.q 7 (.q 8 (.q 9 (.q 10 (.q 11 (.br (.alt 12 [] (.done) (.nil)))))))))))))))]
theorem k241 : AFdOk Tryz.prog 241 d241 := AFdOk.mk Tryz.func241 rfl rfl (by kernel_rfl)
-- midden/prim.of
noncomputable def d242 : AFd := mkAFd Tryz.f242 []
theorem k242 : AFdOk Tryz.prog 242 d242 := AFdOk.mk Tryz.func242 rfl rfl (by kernel_rfl)
-- (*midden/machine.Machine).Roots$1
noncomputable def d227 : AFd := mkAFd Tryz.f227 []
theorem k227 : AFdOk Tryz.prog 227 d227 := AFdOk.mk Tryz.func227 rfl rfl (by kernel_rfl)
-- (*midden/heap.Heap).Old
noncomputable def d221 : AFd := mkAFd Tryz.f221 []
theorem k221 : AFdOk Tryz.prog 221 d221 := AFdOk.mk Tryz.func221 rfl rfl (by kernel_rfl)
-- (*midden/heap.Heap).Begin
noncomputable def d222 : AFd := mkAFd Tryz.f222 [(11, .q 0 (.q 1 (.q 2 (.q 3 (.q 4 (.q 5 (.br (.alt 6 [] (.done) (.nil))))))))), (16, .q 0 (.q 1 (.q 2 (.q 3 (.q 4 (.q 5 (.q 6 (.q 7 (.q 8 (.q 9 (.q 10 (.q 11 (.br (.alt 12 [0] (.q 13 (.q 14 (.br (.alt 15 [] (.done) (.nil))))) (.nil)))))))))))))))]
theorem k222 : AFdOk Tryz.prog 222 d222 := AFdOk.mk Tryz.func222 rfl rfl (by kernel_rfl)
-- (*midden/collect.collector).scan
noncomputable def d223 : AFd := mkAFd Tryz.f223 [(1, .q 0 (.q 1 (.q 2 (.q 3 (.q 4 (.br (.alt 5 [] (.q 6 (.q 7 (.q 8 (.br (.alt 9 [0, 1, 2, 3, 4, 6, 7, 8] (.br (.alt 10 [8] (.q 11 (.done)) (.nil))) (.nil)))))) (.alt 9 [0, 1, 2, 3, 4] (.br (.alt 5 [] (.q 6 (.q 7 (.q 8 (.br (.alt 10 [8] (.q 11 (.done)) (.nil)))))) (.nil))) (.nil))))))))), (2, .q 0 (.q 1 (.q 2 (.q 3 (.q 4 (.br (.alt 5 [] (.q 6 (.q 7 (.q 8 (.q 9 (.br (.alt 10 [0, 1, 2, 3, 4, 6, 7, 8, 9] (.br (.alt 11 [8, 9] (.q 12 (.q 13 (.done))) (.nil))) (.nil))))))) (.alt 10 [0, 1, 2, 3, 4] (.br (.alt 5 [] (.q 6 (.q 7 (.q 8 (.q 9 (.br (.alt 11 [8, 9] (.q 12 (.q 13 (.done))) (.nil))))))) (.nil))) (.nil))))))))), (10, .q 0 (.q 1 (.q 2 (.q 3 (.q 4 (.q 5 (.br (.alt 6 [] (.q 7 (.q 8 (.q 9 (.q 10 (.q 11 (.done)))))) (.nil)))))))))]
theorem k223 : AFdOk Tryz.prog 223 d223 := AFdOk.mk Tryz.func223 rfl rfl (by kernel_rfl)
-- (*midden/collect.collector).move
noncomputable def d224 : AFd := mkAFd Tryz.f224 [(3, .q 0 (.q 1 (.q 2 (.q 3 (.q 4 (.q 5 (.q 6 (.q 7 (.q 8 (.q 9 (.q 13 (.br (.alt 10 [0, 1, 2, 3, 4, 5, 13] (.q 11 (.br (.alt 12 [0, 1, 2, 3, 13] (.br (.alt 14 [] (.q 15 (.q 16 (.q 17 (.q 18 (.q 19 (.done)))))) (.nil))) (.nil)))) (.nil))))))))))))))]
theorem k224 : AFdOk Tryz.prog 224 d224 := AFdOk.mk Tryz.func224 rfl rfl (by kernel_rfl)
-- (*midden/heap.Heap).Fresh
noncomputable def d225 : AFd := mkAFd Tryz.f225 [(1, .q 0 (.br (.alt 1 [] (.q 2 (.q 3 (.q 4 (.q 5 (.q 6 (.q 7 (.q 8 (.q 9 (.q 10 (.q 11 (.q 12 (.q 13 (.q 14 (.done)))))))))))))) (.nil)))), (4, .q 0 (.q 1 (.q 2 (.q 3 (.q 4 (.q 5 (.q 6 (.q 7 (.q 8 (.q 9 (.q 10 (.q 11 (.q 12 (.done))))))))))))))]
theorem k225 : AFdOk Tryz.prog 225 d225 := AFdOk.mk Tryz.func225 rfl rfl (by kernel_rfl)
-- (*midden/heap.Heap).Finish
noncomputable def d226 : AFd := mkAFd Tryz.f226 [(26, .q 0 (.q 1 (.q 2 (.q 3 (.q 4 (.q 5 (.br (.alt 6 [1, 2, 3] (.q 7 (.q 8 (.br (.alt 9 [2, 3] (.q 10 (.q 11 (.br (.alt 12 [3] (.q 13 (.q 14 (.br (.alt 15 [] (.done) (.nil))))) (.nil))))) (.nil))))) (.nil)))))))))]
theorem k226 : AFdOk Tryz.prog 226 d226 := AFdOk.mk Tryz.func226 rfl rfl (by kernel_rfl)
-- (*midden/stack.Stack).Map
noncomputable def d228 : AFd := mkAFd Tryz.f228 [(17, .q 0 (.q 1 (.q 2 (.q 3 (.q 4 (.q 5 (.q 6 (.q 7 (.q 8 (.q 9 (.q 10 (.q 11 (.q 12 (.q 13 (.q 14 (.q 15 (.q 16 (.q 17 (.q 18 (.q 19 (.q 20 (.q 21 (.br (.alt 22 [] (.done) (.nil)))))))))))))))))))))))))]
theorem k228 : AFdOk Tryz.prog 228 d228 := AFdOk.mk Tryz.func228 rfl rfl (by kernel_rfl)
-- (*midden/stable.Table).Map
noncomputable def d229 : AFd := mkAFd Tryz.f229 []
theorem k229 : AFdOk Tryz.prog 229 d229 := AFdOk.mk Tryz.func229 rfl rfl (by kernel_rfl)
-- (*midden/tree.parser).exp$1
noncomputable def d243 : AFd := mkAFd Tryz.f243 []
theorem k243 : AFdOk Tryz.prog 243 d243 := AFdOk.mk Tryz.func243 rfl rfl (by kernel_rfl)
-- (*midden/tree.parser).atoms
noncomputable def d244 : AFd := mkAFd Tryz.f244 []
theorem k244 : AFdOk Tryz.prog 244 d244 := AFdOk.mk Tryz.func244 rfl rfl (by kernel_rfl)
-- (*midden/tree.parser).alt
noncomputable def d245 : AFd := mkAFd Tryz.f245 []
theorem k245 : AFdOk Tryz.prog 245 d245 := AFdOk.mk Tryz.func245 rfl rfl (by kernel_rfl)
-- (*midden/scope.checker).let$1
noncomputable def d246 : AFd := mkAFd Tryz.f246 [(1, .q 0 (.q 1 (.q 2 (.q 3 (.q 4 (.q 5 (.q 6 (.q 7 (.q 8 (.q 9 (.q 10 (.q 11 (.done)))))))))))))]
theorem k246 : AFdOk Tryz.prog 246 d246 := AFdOk.mk Tryz.func246 rfl rfl (by kernel_rfl)
-- (*midden/scope.checker).alt
noncomputable def d247 : AFd := mkAFd Tryz.f247 [(11, .q 0 (.q 1 (.q 2 (.q 3 (.q 4 (.q 5 (.q 6 (.q 7 (.q 8 (.q 9 (.q 10 (.q 11 (.done))))))))))))), (19, .q 0 (.q 1 (.q 2 (.q 3 (.q 4 (.q 5 (.q 6 (.q 7 (.q 8 (.q 10 (.q 11 (.br (.alt 9 [10, 11] (.q 12 (.q 13 (.q 14 (.br (.alt 15 [] (.done) (.nil)))))) (.nil))))))))))))))]
theorem k247 : AFdOk Tryz.prog 247 d247 := AFdOk.mk Tryz.func247 rfl rfl (by kernel_rfl)
-- midden/vars.Class
noncomputable def d203 : AFd := mkAFd Tryz.f203 []
theorem k203 : AFdOk Tryz.prog 203 d203 := AFdOk.mk Tryz.func203 rfl rfl (by kernel_rfl)
-- (midden/gen.places).with
noncomputable def d204 : AFd := mkAFd Tryz.f204 []
theorem k204 : AFdOk Tryz.prog 204 d204 := AFdOk.mk Tryz.func204 rfl rfl (by kernel_rfl)
-- midden/vars.Field
noncomputable def d205 : AFd := mkAFd Tryz.f205 [(10, .q 0 (.q 1 (.q 2 (.q 3 (.q 4 (.q 5 (.q 6 (.q 7 (.q 8 (.done)))))))))), (11, .q 0 (.q 1 (.q 2 (.q 3 (.q 4 (.q 5 (.q 6 (.q 7 (.q 8 (.q 9 (.q 10 (.q 11 (.done)))))))))))))]
theorem k205 : AFdOk Tryz.prog 205 d205 := AFdOk.mk Tryz.func205 rfl rfl (by kernel_rfl)
-- midden/vars.Free
noncomputable def d207 : AFd := mkAFd Tryz.f207 [(1, .q 0 (.q 1 (.q 3 (.q 4 (.br (.alt 2 [3, 4] (.br (.alt 5 [] (.q 6 (.done)) (.nil))) (.nil)))))))]
theorem k207 : AFdOk Tryz.prog 207 d207 := AFdOk.mk Tryz.func207 rfl rfl (by kernel_rfl)
-- midden/gen.locals
noncomputable def d206 : AFd := mkAFd Tryz.f206 []
theorem k206 : AFdOk Tryz.prog 206 d206 := AFdOk.mk Tryz.func206 rfl rfl (by kernel_rfl)
-- (*midden/gen.scheme).all
noncomputable def d208 : AFd := mkAFd Tryz.f208 []
theorem k208 : AFdOk Tryz.prog 208 d208 := AFdOk.mk Tryz.func208 rfl rfl (by kernel_rfl)
-- midden/vars.Within
noncomputable def d209 : AFd := mkAFd Tryz.f209 [(4, .q 0 (.q 1 (.q 5 (.br (.alt 2 [5] (.br (.alt 3 [0, 1, 5] (.br (.alt 4 [5] (.br (.alt 6 [] (.br (.alt 7 [] (.q 8 (.done)) (.nil))) (.nil))) (.nil))) (.nil))) (.alt 3 [0, 1, 5] (.br (.alt 2 [5] (.br (.alt 4 [5] (.br (.alt 6 [] (.br (.alt 7 [] (.q 8 (.done)) (.nil))) (.nil))) (.nil))) (.nil))) (.nil)))))))]
theorem k209 : AFdOk Tryz.prog 209 d209 := AFdOk.mk Tryz.func209 rfl rfl (by kernel_rfl)
-- midden/gen.kept
noncomputable def d210 : AFd := mkAFd Tryz.f210 []
theorem k210 : AFdOk Tryz.prog 210 d210 := AFdOk.mk Tryz.func210 rfl rfl (by kernel_rfl)
-- (*midden/pool.Pool).run
noncomputable def d215 : AFd := mkAFd Tryz.f215 []
theorem k215 : AFdOk Tryz.prog 215 d215 := AFdOk.mk Tryz.func215 rfl rfl (by kernel_rfl)
-- (*midden/pool.Pool).Free
noncomputable def d254 : AFd := mkAFd Tryz.f254 []
theorem k254 : AFdOk Tryz.prog 254 d254 := AFdOk.mk Tryz.func254 rfl rfl (by kernel_rfl)
-- (*midden/arena.Arena).row
noncomputable def d255 : AFd := mkAFd Tryz.f255 []
theorem k255 : AFdOk Tryz.prog 255 d255 := AFdOk.mk Tryz.func255 rfl rfl (by kernel_rfl)
-- (*midden/heap.Heap).lives
noncomputable def d256 : AFd := mkAFd Tryz.f256 []
theorem k256 : AFdOk Tryz.prog 256 d256 := AFdOk.mk Tryz.func256 rfl rfl (by kernel_rfl)
-- (*midden/pool.Pool).Left
noncomputable def d257 : AFd := mkAFd Tryz.f257 []
theorem k257 : AFdOk Tryz.prog 257 d257 := AFdOk.mk Tryz.func257 rfl rfl (by kernel_rfl)
-- (*midden/heap.Heap).Set
noncomputable def d230 : AFd := mkAFd Tryz.f230 []
theorem k230 : AFdOk Tryz.prog 230 d230 := AFdOk.mk Tryz.func230 rfl rfl (by kernel_rfl)
-- midden/stack.Right
noncomputable def d271 : AFd := mkAFd Tryz.f271 []
theorem k271 : AFdOk Tryz.prog 271 d271 := AFdOk.mk Tryz.func271 rfl rfl (by kernel_rfl)
-- midden/prim.Name
noncomputable def d272 : AFd := mkAFd Tryz.f272 []
theorem k272 : AFdOk Tryz.prog 272 d272 := AFdOk.mk Tryz.func272 rfl rfl (by kernel_rfl)
-- (*midden/machine.Machine).word
noncomputable def d273 : AFd := mkAFd Tryz.f273 [(1, .q 0 (.q 1 (.q 2 (.q 3 (.q 4 (.q 5 (.q 6 (.q 7 (.q 8 (.q 9 (.q 10 (.br (.alt 11 [] (.q 12 (.q 13 (.q 14 (.q 15 (.q 16 (.done)))))) (.nil))))))))))))))]
theorem k273 : AFdOk Tryz.prog 273 d273 := AFdOk.mk Tryz.func273 rfl rfl (by kernel_rfl)
-- (*midden/machine.Machine).do$1
noncomputable def d274 : AFd := mkAFd Tryz.f274 [(1, .q 0 (.q 2 (.q 3 (.q 4 (.q 5 (.br (.alt 1 [0, 2, 3, 4, 5] (.br (.alt 6 [] (.q 7 (.q 8 (.q 9 (.q 10 (.done))))) (.nil))) (.nil))))))))]
theorem k274 : AFdOk Tryz.prog 274 d274 := AFdOk.mk Tryz.func274 rfl rfl (by kernel_rfl)
-- (*midden/machine.Machine).number
noncomputable def d275 : AFd := mkAFd Tryz.f275 []
theorem k275 : AFdOk Tryz.prog 275 d275 := AFdOk.mk Tryz.func275 rfl rfl (by kernel_rfl)
-- (*midden/machine.Machine).do$2
noncomputable def d276 : AFd := mkAFd Tryz.f276 []
theorem k276 : AFdOk Tryz.prog 276 d276 := AFdOk.mk Tryz.func276 rfl rfl (by kernel_rfl)
-- (*midden/machine.Machine).item
noncomputable def d277 : AFd := mkAFd Tryz.f277 [(1, .q 0 (.q 1 (.q 2 (.q 3 (.q 4 (.q 5 (.q 6 (.q 7 (.q 8 (.q 9 (.br (.alt 10 [] (.q 11 (.q 12 (.q 13 (.br (.alt 14 [0, 1, 2, 3, 4, 5, 6, 7, 8, 9, 11, 12, 13] (.br (.alt 15 [13] (.q 16 (.done)) (.nil))) (.nil)))))) (.alt 14 [0, 1, 2, 3, 4, 5, 6, 7, 8, 9] (.br (.alt 10 [] (.q 11 (.q 12 (.q 13 (.br (.alt 15 [13] (.q 16 (.done)) (.nil)))))) (.nil))) (.nil)))))))))))))), (6, .q 0 (.q 1 (.q 2 (.q 3 (.q 4 (.q 5 (.q 6 (.q 7 (.q 8 (.q 9 (.q 10 (.br (.alt 11 [] (.q 12 (.q 13 (.q 14 (.q 15 (.q 16 (.done)))))) (.nil)))))))))))))), (9, .q 0 (.q 1 (.q 2 (.q 3 (.q 4 (.q 5 (.q 6 (.q 7 (.q 8 (.q 9 (.q 10 (.q 11 (.q 12 (.q 13 (.q 14 (.q 15 (.q 16 (.br (.alt 17 [] (.done) (.nil))))))))))))))))))))]
theorem k277 : AFdOk Tryz.prog 277 d277 := AFdOk.mk Tryz.func277 rfl rfl (by kernel_rfl)
-- midden/prim.Do
noncomputable def d278 : AFd := mkAFd Tryz.f278 []
theorem k278 : AFdOk Tryz.prog 278 d278 := AFdOk.mk Tryz.func278 rfl rfl (by kernel_rfl)
-- midden/word.Unpack
noncomputable def d279 : AFd := mkAFd Tryz.f279 []
theorem k279 : AFdOk Tryz.prog 279 d279 := AFdOk.mk Tryz.func279 rfl rfl (by kernel_rfl)
-- (*midden/arena.Arena).Read
noncomputable def d280 : AFd := mkAFd Tryz.f280 []
theorem k280 : AFdOk Tryz.prog 280 d280 := AFdOk.mk Tryz.func280 rfl rfl (by kernel_rfl)
-- midden/shape.Over
noncomputable def d281 : AFd := mkAFd Tryz.f281 []
theorem k281 : AFdOk Tryz.prog 281 d281 := AFdOk.mk Tryz.func281 rfl rfl (by kernel_rfl)
-- (*midden/remember.Lists).Put
noncomputable def d282 : AFd := mkAFd Tryz.f282 []
theorem k282 : AFdOk Tryz.prog 282 d282 := AFdOk.mk Tryz.func282 rfl rfl (by kernel_rfl)
-- (*midden/remember.Lists).All
noncomputable def d258 : AFd := mkAFd Tryz.f258 []
theorem k258 : AFdOk Tryz.prog 258 d258 := AFdOk.mk Tryz.func258 rfl rfl (by kernel_rfl)
-- (*midden/remember.Lists).Take
noncomputable def d259 : AFd := mkAFd Tryz.f259 []
theorem k259 : AFdOk Tryz.prog 259 d259 := AFdOk.mk Tryz.func259 rfl rfl (by kernel_rfl)
-- (*midden/heap.Heap).Where
noncomputable def d260 : AFd := mkAFd Tryz.f260 [(7, .q 0 (.q 1 (.q 2 (.q 3 (.q 4 (.q 5 (.q 6 (.done))))))))]
theorem k260 : AFdOk Tryz.prog 260 d260 := AFdOk.mk Tryz.func260 rfl rfl (by kernel_rfl)
-- (*midden/collect.collector).scan$1
noncomputable def d261 : AFd := mkAFd Tryz.f261 [(2, .q 0 (.q 1 (.q 2 (.q 3 (.q 4 (.q 5 (.q 6 (.q 7 (.br (.alt 8 [0] (.q 9 (.q 10 (.br (.alt 11 [] (.done) (.nil))))) (.nil)))))))))))]
theorem k261 : AFdOk Tryz.prog 261 d261 := AFdOk.mk Tryz.func261 rfl rfl (by kernel_rfl)
-- (*midden/collect.collector).short
noncomputable def d264 : AFd := mkAFd Tryz.f264 []
theorem k264 : AFdOk Tryz.prog 264 d264 := AFdOk.mk Tryz.func264 rfl rfl (by kernel_rfl)
-- (*midden/heap.Heap).Evacuate
noncomputable def d263 : AFd := mkAFd Tryz.f263 [(19, .q 0 (.q 1 (.q 2 (.q 3 (.q 4 (.q 5 (.q 6 (.q 7 (.q 8 (.br (.alt 9 [] (.br (.alt 10 [] (.br (.alt 11 [] (.done) (.nil))) (.nil))) (.nil)))))))))))), (25, .q 0 (.q 1 (.q 2 (.q 3 (.q 4 (.q 5 (.q 6 (.br (.alt 7 [0, 1, 2, 3, 4, 5] (.br (.alt 8 [] (.done) (.nil))) (.nil))))))))))]
theorem k263 : AFdOk Tryz.prog 263 d263 := AFdOk.mk Tryz.func263 rfl rfl (by kernel_rfl)
-- midden/shape.Pointers
noncomputable def d265 : AFd := mkAFd Tryz.f265 []
theorem k265 : AFdOk Tryz.prog 265 d265 := AFdOk.mk Tryz.func265 rfl rfl (by kernel_rfl)
-- (*midden/heap.Heap).die
noncomputable def d266 : AFd := mkAFd Tryz.f266 []
theorem k266 : AFdOk Tryz.prog 266 d266 := AFdOk.mk Tryz.func266 rfl rfl (by kernel_rfl)
-- (*midden/bump.Space).Free
noncomputable def d267 : AFd := mkAFd Tryz.f267 [(8, .q 0 (.q 1 (.q 2 (.q 3 (.q 4 (.q 5 (.q 6 (.q 7 (.q 8 (.br (.alt 9 [0, 1, 2, 3, 4, 5, 6, 7, 8] (.br (.alt 10 [0] (.q 11 (.br (.alt 12 [] (.done) (.nil)))) (.nil))) (.nil))))))))))))]
theorem k267 : AFdOk Tryz.prog 267 d267 := AFdOk.mk Tryz.func267 rfl rfl (by kernel_rfl)
-- (*midden/stack.Stack).Frames
noncomputable def d268 : AFd := mkAFd Tryz.f268 []
theorem k268 : AFdOk Tryz.prog 268 d268 := AFdOk.mk Tryz.func268 rfl rfl (by kernel_rfl)
-- midden/stack.pointer
noncomputable def d269 : AFd := mkAFd Tryz.f269 []
theorem k269 : AFdOk Tryz.prog 269 d269 := AFdOk.mk Tryz.func269 rfl rfl (by kernel_rfl)
-- (*midden/scope.checker).alt$1
noncomputable def d283 : AFd := mkAFd Tryz.f283 [(1, .q 0 (.q 1 (.q 2 (.q 3 (.q 4 (.q 5 (.q 6 (.q 7 (.q 8 (.q 9 (.done)))))))))))]
theorem k283 : AFdOk Tryz.prog 283 d283 := AFdOk.mk Tryz.func283 rfl rfl (by kernel_rfl)
-- midden/vars.plain
noncomputable def d248 : AFd := mkAFd Tryz.f248 []
theorem k248 : AFdOk Tryz.prog 248 d248 := AFdOk.mk Tryz.func248 rfl rfl (by kernel_rfl)
-- midden/vars.less
noncomputable def d249 : AFd := mkAFd Tryz.f249 []
theorem k249 : AFdOk Tryz.prog 249 d249 := AFdOk.mk Tryz.func249 rfl rfl (by kernel_rfl)
-- midden/vars.atoms
noncomputable def d250 : AFd := mkAFd Tryz.f250 []
theorem k250 : AFdOk Tryz.prog 250 d250 := AFdOk.mk Tryz.func250 rfl rfl (by kernel_rfl)
-- midden/vars.kid
noncomputable def d251 : AFd := mkAFd Tryz.f251 []
theorem k251 : AFdOk Tryz.prog 251 d251 := AFdOk.mk Tryz.func251 rfl rfl (by kernel_rfl)
-- midden/vars.bound
noncomputable def d252 : AFd := mkAFd Tryz.f252 []
theorem k252 : AFdOk Tryz.prog 252 d252 := AFdOk.mk Tryz.func252 rfl rfl (by kernel_rfl)
-- midden/vars.once
noncomputable def d253 : AFd := mkAFd Tryz.f253 []
theorem k253 : AFdOk Tryz.prog 253 d253 := AFdOk.mk Tryz.func253 rfl rfl (by kernel_rfl)
-- (*midden/pool.Pool).Runs
noncomputable def d286 : AFd := mkAFd Tryz.f286 []
theorem k286 : AFdOk Tryz.prog 286 d286 := AFdOk.mk Tryz.func286 rfl rfl (by kernel_rfl)
-- (*midden/heap.Heap).field
noncomputable def d270 : AFd := mkAFd Tryz.f270 []
theorem k270 : AFdOk Tryz.prog 270 d270 := AFdOk.mk Tryz.func270 rfl rfl (by kernel_rfl)
-- midden/stack.of
noncomputable def d298 : AFd := mkAFd Tryz.f298 []
theorem k298 : AFdOk Tryz.prog 298 d298 := AFdOk.mk Tryz.func298 rfl rfl (by kernel_rfl)
-- (*midden/machine.Machine).number$1
noncomputable def d299 : AFd := mkAFd Tryz.f299 []
theorem k299 : AFdOk Tryz.prog 299 d299 := AFdOk.mk Tryz.func299 rfl rfl (by kernel_rfl)
-- midden/prim.truth
noncomputable def d300 : AFd := mkAFd Tryz.f300 []
theorem k300 : AFdOk Tryz.prog 300 d300 := AFdOk.mk Tryz.func300 rfl rfl (by kernel_rfl)
-- (*midden/remember.Lists).wrong
noncomputable def d301 : AFd := mkAFd Tryz.f301 []
theorem k301 : AFdOk Tryz.prog 301 d301 := AFdOk.mk Tryz.func301 rfl rfl (by kernel_rfl)
-- (*midden/remember.Lists).list
noncomputable def d287 : AFd := mkAFd Tryz.f287 []
theorem k287 : AFdOk Tryz.prog 287 d287 := AFdOk.mk Tryz.func287 rfl rfl (by kernel_rfl)
-- slices.Sort[[]int,int]
noncomputable def d288 : AFd := mkAFd Tryz.f288 []
theorem k288 : AFdOk Tryz.prog 288 d288 := AFdOk.mk Tryz.func288 rfl rfl (by kernel_rfl)
-- (*midden/heap.Heap).Store
noncomputable def d262 : AFd := mkAFd Tryz.f262 []
theorem k262 : AFdOk Tryz.prog 262 d262 := AFdOk.mk Tryz.func262 rfl rfl (by kernel_rfl)
-- (*midden/collect.collector).here
noncomputable def d293 : AFd := mkAFd Tryz.f293 []
theorem k293 : AFdOk Tryz.prog 293 d293 := AFdOk.mk Tryz.func293 rfl rfl (by kernel_rfl)
-- (*midden/collect.collector).field
noncomputable def d294 : AFd := mkAFd Tryz.f294 []
theorem k294 : AFdOk Tryz.prog 294 d294 := AFdOk.mk Tryz.func294 rfl rfl (by kernel_rfl)
-- midden/word.Moved
noncomputable def d289 : AFd := mkAFd Tryz.f289 []
theorem k289 : AFdOk Tryz.prog 289 d289 := AFdOk.mk Tryz.func289 rfl rfl (by kernel_rfl)
-- (*midden/heap.Heap).space
noncomputable def d290 : AFd := mkAFd Tryz.f290 []
theorem k290 : AFdOk Tryz.prog 290 d290 := AFdOk.mk Tryz.func290 rfl rfl (by kernel_rfl)
-- (*midden/arena.Arena).Move
noncomputable def d291 : AFd := mkAFd Tryz.f291 [(8, .q 0 (.q 1 (.q 2 (.q 3 (.q 4 (.q 5 (.q 6 (.q 7 (.q 8 (.q 9 (.q 10 (.q 11 (.q 12 (.q 13 (.q 14 (.q 15 (.q 16 (.q 17 (.br (.alt 18 [] (.done) (.nil)))))))))))))))))))))]
theorem k291 : AFdOk Tryz.prog 291 d291 := AFdOk.mk Tryz.func291 rfl rfl (by kernel_rfl)
-- midden/word.Forward
noncomputable def d292 : AFd := mkAFd Tryz.f292 []
theorem k292 : AFdOk Tryz.prog 292 d292 := AFdOk.mk Tryz.func292 rfl rfl (by kernel_rfl)
-- midden/shape.Pointers$1
noncomputable def d295 : AFd := mkAFd Tryz.f295 []
theorem k295 : AFdOk Tryz.prog 295 d295 := AFdOk.mk Tryz.func295 rfl rfl (by kernel_rfl)
-- (*midden/stack.Stack).Used
noncomputable def d296 : AFd := mkAFd Tryz.f296 []
theorem k296 : AFdOk Tryz.prog 296 d296 := AFdOk.mk Tryz.func296 rfl rfl (by kernel_rfl)
-- (*midden/stack.Stack).Frames$1
noncomputable def d297 : AFd := mkAFd Tryz.f297 []
theorem k297 : AFdOk Tryz.prog 297 d297 := AFdOk.mk Tryz.func297 rfl rfl (by kernel_rfl)
-- midden/vars.less$1
noncomputable def d285 : AFd := mkAFd Tryz.f285 []
theorem k285 : AFdOk Tryz.prog 285 d285 := AFdOk.mk Tryz.func285 rfl rfl (by kernel_rfl)
-- midden/vars.some
noncomputable def d284 : AFd := mkAFd Tryz.f284 []
theorem k284 : AFdOk Tryz.prog 284 d284 := AFdOk.mk Tryz.func284 rfl rfl (by kernel_rfl)
-- (*midden/pool.Pool).Runs$1
noncomputable def d302 : AFd := mkAFd Tryz.f302 []
theorem k302 : AFdOk Tryz.prog 302 d302 := AFdOk.mk Tryz.func302 rfl rfl (by kernel_rfl)
-- midden/pool.kept
noncomputable def d303 : AFd := mkAFd Tryz.f303 [(5, .q 0 (.q 1 (.q 4 (.q 5 (.br (.alt 2 [0, 4, 5] (.br (.alt 3 [4, 5] (.br (.alt 6 [0, 1, 4] (.br (.alt 7 [] (.br (.alt 8 [] (.br (.alt 9 [] (.done) (.nil))) (.nil))) (.nil))) (.nil))) (.alt 6 [0, 1, 4] (.br (.alt 3 [4, 5] (.br (.alt 7 [] (.br (.alt 8 [] (.br (.alt 9 [] (.done) (.nil))) (.nil))) (.nil))) (.nil))) (.nil)))) (.alt 6 [0, 1, 4] (.br (.alt 2 [0, 4, 5] (.br (.alt 3 [4, 5] (.br (.alt 7 [] (.br (.alt 8 [] (.br (.alt 9 [] (.done) (.nil))) (.nil))) (.nil))) (.nil))) (.nil))) (.nil))))))))]
theorem k303 : AFdOk Tryz.prog 303 d303 := AFdOk.mk Tryz.func303 rfl rfl (by kernel_rfl)
-- math/bits.Len
noncomputable def d305 : AFd := mkAFd Tryz.f305 []
theorem k305 : AFdOk Tryz.prog 305 d305 := AFdOk.mk Tryz.func305 rfl rfl (by kernel_rfl)
-- slices.pdqsortOrdered[int]
noncomputable def d304 : AFd := mkAFd Tryz.f304 [(17, .q 0 (.q 1 (.q 2 (.q 3 (.q 4 (.q 5 (.q 6 (.q 7 (.q 8 (.q 9 (.q 10 (.q 11 (.br (.alt 12 [] (.q 13 (.q 14 (.done))) (.nil)))))))))))))))]
theorem k304 : AFdOk Tryz.prog 304 d304 := AFdOk.mk Tryz.func304 rfl rfl (by kernel_rfl)
-- (*midden/heap.Heap).Moved
noncomputable def d306 : AFd := mkAFd Tryz.f306 []
theorem k306 : AFdOk Tryz.prog 306 d306 := AFdOk.mk Tryz.func306 rfl rfl (by kernel_rfl)
-- midden/pool.kept$1
noncomputable def d307 : AFd := mkAFd Tryz.f307 [(3, .q 0 (.q 1 (.q 2 (.q 3 (.q 4 (.q 5 (.q 6 (.q 7 (.q 8 (.br (.alt 9 [] (.q 10 (.done)) (.nil))))))))))))]
theorem k307 : AFdOk Tryz.prog 307 d307 := AFdOk.mk Tryz.func307 rfl rfl (by kernel_rfl)
-- math/bits.Len32
noncomputable def d317 : AFd := mkAFd Tryz.f317 []
theorem k317 : AFdOk Tryz.prog 317 d317 := AFdOk.mk Tryz.func317 rfl rfl (by kernel_rfl)
-- math/bits.Len64
noncomputable def d318 : AFd := mkAFd Tryz.f318 []
theorem k318 : AFdOk Tryz.prog 318 d318 := AFdOk.mk Tryz.func318 rfl rfl (by kernel_rfl)
-- slices.insertionSortOrdered[int]
noncomputable def d308 : AFd := mkAFd Tryz.f308 [(4, .q 0 (.q 1 (.q 2 (.q 3 (.q 4 (.q 5 (.q 6 (.q 7 (.q 8 (.q 9 (.q 10 (.q 11 (.q 12 (.br (.alt 13 [] (.q 14 (.done)) (.nil)))))))))))))))), (6, .q 0 (.q 1 (.q 2 (.q 3 (.q 4 (.q 5 (.q 6 (.q 7 (.q 8 (.q 9 (.q 10 (.q 11 (.q 12 (.q 13 (.q 14 (.br (.alt 15 [2, 3, 4] (.q 16 (.br (.alt 17 [] (.done) (.nil)))) (.nil))))))))))))))))))]
theorem k308 : AFdOk Tryz.prog 308 d308 := AFdOk.mk Tryz.func308 rfl rfl (by kernel_rfl)
-- slices.heapSortOrdered[int]
noncomputable def d309 : AFd := mkAFd Tryz.f309 [(10, .q 0 (.q 1 (.q 2 (.q 3 (.q 4 (.q 5 (.q 6 (.q 7 (.q 8 (.q 9 (.q 10 (.q 11 (.q 12 (.q 13 (.q 14 (.q 15 (.q 16 (.br (.alt 17 [2, 3, 4, 5] (.q 18 (.br (.alt 19 [] (.done) (.nil)))) (.nil))))))))))))))))))))]
theorem k309 : AFdOk Tryz.prog 309 d309 := AFdOk.mk Tryz.func309 rfl rfl (by kernel_rfl)
-- slices.breakPatternsOrdered[int]
noncomputable def d310 : AFd := mkAFd Tryz.f310 [(10, .q 0 (.q 1 (.q 2 (.q 3 (.q 4 (.q 5 (.q 6 (.q 7 (.q 8 (.q 9 (.q 10 (.q 11 (.q 12 (.q 13 (.q 14 (.q 15 (.q 16 (.br (.alt 17 [2, 3, 4, 5] (.q 18 (.br (.alt 19 [] (.done) (.nil)))) (.nil))))))))))))))))))))]
theorem k310 : AFdOk Tryz.prog 310 d310 := AFdOk.mk Tryz.func310 rfl rfl (by kernel_rfl)
-- slices.choosePivotOrdered[int]
noncomputable def d311 : AFd := mkAFd Tryz.f311 []
theorem k311 : AFdOk Tryz.prog 311 d311 := AFdOk.mk Tryz.func311 rfl rfl (by kernel_rfl)
-- slices.reverseRangeOrdered[int]
noncomputable def d312 : AFd := mkAFd Tryz.f312 [(3, .q 0 (.q 1 (.q 2 (.q 3 (.q 4 (.q 5 (.q 6 (.q 7 (.q 8 (.q 9 (.q 10 (.q 11 (.q 12 (.br (.alt 13 [2, 3] (.q 14 (.br (.alt 15 [] (.done) (.nil)))) (.nil))))))))))))))))]
theorem k312 : AFdOk Tryz.prog 312 d312 := AFdOk.mk Tryz.func312 rfl rfl (by kernel_rfl)
-- slices.partialInsertionSortOrdered[int]
noncomputable def d313 : AFd := mkAFd Tryz.f313 [(5, .q 0 (.q 1 (.q 2 (.q 3 (.q 4 (.q 5 (.q 6 (.q 7 (.q 8 (.q 9 (.q 10 (.q 11 (.q 12 (.br (.alt 13 [] (.q 14 (.q 15 (.done))) (.nil)))))))))))))))), (11, .q 0 (.q 1 (.q 2 (.q 3 (.q 4 (.q 5 (.q 6 (.q 7 (.q 8 (.q 9 (.q 10 (.q 11 (.q 12 (.q 13 (.q 14 (.br (.alt 15 [2, 3, 4] (.q 16 (.br (.alt 17 [] (.done) (.nil)))) (.nil)))))))))))))))))), (16, .q 0 (.q 1 (.q 2 (.q 3 (.q 4 (.q 5 (.q 6 (.q 7 (.q 8 (.br (.alt 9 [] (.q 10 (.done)) (.nil)))))))))))), (17, .q 0 (.q 1 (.q 2 (.q 3 (.q 4 (.q 5 (.q 6 (.q 7 (.q 8 (.q 9 (.q 10 (.q 11 (.q 12 (.q 13 (.q 14 (.br (.alt 15 [2, 3, 4] (.q 16 (.br (.alt 17 [] (.done) (.nil)))) (.nil)))))))))))))))))), (22, .q 0 (.q 1 (.q 2 (.q 3 (.q 4 (.q 5 (.q 6 (.q 7 (.q 8 (.br (.alt 9 [] (.q 10 (.done)) (.nil)))))))))))), (23, .q 0 (.q 1 (.q 2 (.q 3 (.q 4 (.q 5 (.q 6 (.q 7 (.q 8 (.q 9 (.q 10 (.q 11 (.q 12 (.q 13 (.q 14 (.br (.alt 15 [2, 3, 4] (.q 16 (.br (.alt 17 [] (.done) (.nil)))) (.nil))))))))))))))))))]
theorem k313 : AFdOk Tryz.prog 313 d313 := AFdOk.mk Tryz.func313 rfl rfl (by kernel_rfl)
-- cmp.Less[int]
noncomputable def d314 : AFd := mkAFd Tryz.f314 []
theorem k314 : AFdOk Tryz.prog 314 d314 := AFdOk.mk Tryz.func314 rfl rfl (by kernel_rfl)
-- slices.partitionEqualOrdered[int]
noncomputable def d315 : AFd := mkAFd Tryz.f315 [(1, .q 0 (.q 1 (.q 2 (.q 3 (.q 4 (.q 5 (.q 6 (.q 7 (.q 8 (.q 9 (.q 10 (.q 11 (.q 12 (.br (.alt 13 [2, 3] (.q 14 (.br (.alt 15 [] (.done) (.nil)))) (.nil)))))))))))))))), (3, .q 0 (.q 1 (.q 2 (.q 3 (.q 4 (.q 5 (.q 6 (.q 7 (.q 8 (.q 9 (.q 10 (.q 11 (.br (.alt 12 [] (.q 13 (.q 14 (.done))) (.nil))))))))))))))), (5, .q 0 (.q 1 (.q 2 (.q 3 (.q 4 (.q 5 (.q 6 (.q 7 (.q 8 (.q 9 (.q 10 (.q 11 (.br (.alt 12 [] (.q 13 (.done)) (.nil))))))))))))))), (8, .q 0 (.q 1 (.q 2 (.q 3 (.q 4 (.q 5 (.q 6 (.q 7 (.q 8 (.q 9 (.q 10 (.q 11 (.q 12 (.br (.alt 13 [2, 3] (.q 14 (.br (.alt 15 [] (.done) (.nil)))) (.nil))))))))))))))))]
theorem k315 : AFdOk Tryz.prog 315 d315 := AFdOk.mk Tryz.func315 rfl rfl (by kernel_rfl)
-- slices.partitionOrdered[int]
noncomputable def d316 : AFd := mkAFd Tryz.f316 [(1, .q 0 (.q 1 (.q 2 (.q 3 (.q 4 (.q 5 (.q 6 (.q 7 (.q 8 (.q 9 (.q 10 (.q 11 (.q 12 (.br (.alt 13 [2, 3] (.q 14 (.br (.alt 15 [] (.done) (.nil)))) (.nil)))))))))))))))), (3, .q 0 (.q 1 (.q 2 (.q 3 (.q 4 (.q 5 (.q 6 (.q 7 (.q 8 (.q 9 (.q 10 (.q 11 (.br (.alt 12 [] (.q 13 (.done)) (.nil))))))))))))))), (5, .q 0 (.q 1 (.q 2 (.q 3 (.q 4 (.q 5 (.q 6 (.q 7 (.q 8 (.q 9 (.q 10 (.q 11 (.br (.alt 12 [] (.q 13 (.q 14 (.done))) (.nil))))))))))))))), (8, .q 0 (.q 1 (.q 2 (.q 3 (.q 4 (.q 5 (.q 6 (.q 7 (.q 8 (.q 9 (.q 10 (.q 11 (.q 12 (.br (.alt 13 [2, 3] (.q 14 (.br (.alt 15 [] (.done) (.nil)))) (.nil)))))))))))))))), (10, .q 0 (.q 1 (.q 2 (.q 3 (.q 4 (.q 5 (.q 6 (.q 7 (.q 8 (.q 9 (.q 10 (.q 11 (.q 12 (.br (.alt 13 [2, 3] (.q 14 (.br (.alt 15 [] (.done) (.nil)))) (.nil)))))))))))))))), (13, .q 0 (.q 1 (.q 2 (.q 3 (.q 4 (.q 5 (.q 6 (.q 7 (.q 8 (.q 9 (.q 10 (.q 11 (.br (.alt 12 [] (.q 13 (.done)) (.nil))))))))))))))), (15, .q 0 (.q 1 (.q 2 (.q 3 (.q 4 (.q 5 (.q 6 (.q 7 (.q 8 (.q 9 (.q 10 (.q 11 (.br (.alt 12 [] (.q 13 (.q 14 (.done))) (.nil))))))))))))))), (18, .q 0 (.q 1 (.q 2 (.q 3 (.q 4 (.q 5 (.q 6 (.q 7 (.q 8 (.q 9 (.q 10 (.q 11 (.q 12 (.br (.alt 13 [2, 3] (.q 14 (.br (.alt 15 [] (.done) (.nil)))) (.nil)))))))))))))))), (21, .q 0 (.q 1 (.q 2 (.q 3 (.q 4 (.q 5 (.q 6 (.q 7 (.q 8 (.q 9 (.q 10 (.q 11 (.q 12 (.br (.alt 13 [2, 3] (.q 14 (.br (.alt 15 [] (.done) (.nil)))) (.nil))))))))))))))))]
theorem k316 : AFdOk Tryz.prog 316 d316 := AFdOk.mk Tryz.func316 rfl rfl (by kernel_rfl)
-- slices.siftDownOrdered[int]
noncomputable def d319 : AFd := mkAFd Tryz.f319 [(3, .q 0 (.q 1 (.q 2 (.q 3 (.q 4 (.q 5 (.q 6 (.q 7 (.q 8 (.q 9 (.q 10 (.q 11 (.q 12 (.q 13 (.q 14 (.q 15 (.q 16 (.q 17 (.br (.alt 18 [] (.q 19 (.done)) (.nil))))))))))))))))))))), (5, .q 0 (.q 1 (.q 2 (.q 3 (.q 4 (.q 5 (.q 6 (.q 7 (.q 8 (.q 9 (.q 10 (.q 11 (.br (.alt 12 [] (.q 13 (.done)) (.nil))))))))))))))), (6, .q 0 (.q 1 (.q 2 (.q 3 (.q 4 (.q 5 (.q 6 (.q 7 (.q 8 (.q 9 (.q 10 (.q 11 (.q 12 (.q 13 (.q 14 (.q 15 (.q 16 (.q 17 (.q 18 (.q 19 (.q 20 (.br (.alt 21 [4, 5, 6, 7] (.q 22 (.br (.alt 23 [] (.done) (.nil)))) (.nil))))))))))))))))))))))))]
theorem k319 : AFdOk Tryz.prog 319 d319 := AFdOk.mk Tryz.func319 rfl rfl (by kernel_rfl)
-- slices.nextPowerOfTwo
noncomputable def d320 : AFd := mkAFd Tryz.f320 []
theorem k320 : AFdOk Tryz.prog 320 d320 := AFdOk.mk Tryz.func320 rfl rfl (by kernel_rfl)
-- (*slices.xorshift).Next
noncomputable def d321 : AFd := mkAFd Tryz.f321 [(1, .q 0 (.q 1 (.q 2 (.q 3 (.q 4 (.q 5 (.q 6 (.q 7 (.q 8 (.br (.alt 9 [] (.done) (.nil)))))))))))), (2, .q 0 (.q 1 (.q 2 (.q 3 (.q 4 (.q 5 (.q 6 (.q 7 (.q 8 (.br (.alt 9 [] (.done) (.nil)))))))))))), (3, .q 0 (.q 1 (.q 2 (.q 3 (.q 4 (.q 5 (.q 6 (.q 7 (.q 8 (.br (.alt 9 [] (.done) (.nil))))))))))))]
theorem k321 : AFdOk Tryz.prog 321 d321 := AFdOk.mk Tryz.func321 rfl rfl (by kernel_rfl)
-- slices.medianAdjacentOrdered[int]
noncomputable def d322 : AFd := mkAFd Tryz.f322 []
theorem k322 : AFdOk Tryz.prog 322 d322 := AFdOk.mk Tryz.func322 rfl rfl (by kernel_rfl)
-- slices.medianOrdered[int]
noncomputable def d323 : AFd := mkAFd Tryz.f323 []
theorem k323 : AFdOk Tryz.prog 323 d323 := AFdOk.mk Tryz.func323 rfl rfl (by kernel_rfl)
-- cmp.isNaN[int]
noncomputable def d324 : AFd := mkAFd Tryz.f324 []
theorem k324 : AFdOk Tryz.prog 324 d324 := AFdOk.mk Tryz.func324 rfl rfl (by kernel_rfl)
-- slices.order2Ordered[int]
noncomputable def d325 : AFd := mkAFd Tryz.f325 [(1, .q 0 (.q 1 (.q 2 (.q 3 (.q 4 (.q 5 (.q 6 (.q 7 (.br (.alt 8 [] (.done) (.nil)))))))))))]
theorem k325 : AFdOk Tryz.prog 325 d325 := AFdOk.mk Tryz.func325 rfl rfl (by kernel_rfl)
noncomputable def fdL : List (Nat × AFd) := [(9, d9), (21, d21), (7, d7), (26, d26), (34, d34), (15, d15), (16, d16), (17, d17), (23, d23), (40, d40), (41, d41), (29, d29), (30, d30), (31, d31), (35, d35), (61, d61), (62, d62), (63, d63), (64, d64), (65, d65), (67, d67), (66, d66), (68, d68), (69, d69), (70, d70), (71, d71), (36, d36), (37, d37), (42, d42), (43, d43), (75, d75), (76, d76), (77, d77), (78, d78), (79, d79), (80, d80), (81, d81), (82, d82), (83, d83), (84, d84), (85, d85), (86, d86), (87, d87), (88, d88), (89, d89), (90, d90), (92, d92), (93, d93), (94, d94), (11, d11), (95, d95), (91, d91), (96, d96), (44, d44), (45, d45), (46, d46), (47, d47), (48, d48), (49, d49), (50, d50), (51, d51), (52, d52), (72, d72), (73, d73), (97, d97), (98, d98), (99, d99), (100, d100), (101, d101), (102, d102), (103, d103), (104, d104), (105, d105), (107, d107), (108, d108), (109, d109), (110, d110), (111, d111), (112, d112), (113, d113), (114, d114), (115, d115), (116, d116), (117, d117), (118, d118), (119, d119), (120, d120), (121, d121), (123, d123), (122, d122), (125, d125), (126, d126), (127, d127), (130, d130), (131, d131), (132, d132), (133, d133), (134, d134), (128, d128), (129, d129), (135, d135), (136, d136), (137, d137), (138, d138), (140, d140), (139, d139), (141, d141), (106, d106), (149, d149), (151, d151), (152, d152), (153, d153), (154, d154), (155, d155), (156, d156), (150, d150), (157, d157), (158, d158), (159, d159), (161, d161), (160, d160), (162, d162), (163, d163), (164, d164), (165, d165), (124, d124), (166, d166), (167, d167), (168, d168), (169, d169), (174, d174), (176, d176), (177, d177), (178, d178), (179, d179), (180, d180), (181, d181), (182, d182), (183, d183), (184, d184), (185, d185), (186, d186), (187, d187), (189, d189), (188, d188), (190, d190), (191, d191), (192, d192), (194, d194), (193, d193), (195, d195), (196, d196), (171, d171), (170, d170), (173, d173), (172, d172), (197, d197), (198, d198), (199, d199), (145, d145), (200, d200), (201, d201), (202, d202), (142, d142), (143, d143), (144, d144), (146, d146), (147, d147), (148, d148), (211, d211), (212, d212), (213, d213), (214, d214), (216, d216), (217, d217), (218, d218), (219, d219), (220, d220), (175, d175), (231, d231), (232, d232), (233, d233), (234, d234), (235, d235), (236, d236), (237, d237), (238, d238), (239, d239), (240, d240), (241, d241), (242, d242), (227, d227), (221, d221), (222, d222), (223, d223), (224, d224), (225, d225), (226, d226), (228, d228), (229, d229), (243, d243), (244, d244), (245, d245), (246, d246), (247, d247), (203, d203), (204, d204), (205, d205), (207, d207), (206, d206), (208, d208), (209, d209), (210, d210), (215, d215), (254, d254), (255, d255), (256, d256), (257, d257), (230, d230), (271, d271), (272, d272), (273, d273), (274, d274), (275, d275), (276, d276), (277, d277), (278, d278), (279, d279), (280, d280), (281, d281), (282, d282), (258, d258), (259, d259), (260, d260), (261, d261), (264, d264), (263, d263), (265, d265), (266, d266), (267, d267), (268, d268), (269, d269), (283, d283), (248, d248), (249, d249), (250, d250), (251, d251), (252, d252), (253, d253), (286, d286), (270, d270), (298, d298), (299, d299), (300, d300), (301, d301), (287, d287), (288, d288), (262, d262), (293, d293), (294, d294), (289, d289), (290, d290), (291, d291), (292, d292), (295, d295), (296, d296), (297, d297), (285, d285), (284, d284), (302, d302), (303, d303), (305, d305), (304, d304), (306, d306), (307, d307), (317, d317), (318, d318), (308, d308), (309, d309), (310, d310), (311, d311), (312, d312), (313, d313), (314, d314), (315, d315), (316, d316), (319, d319), (320, d320), (321, d321), (322, d322), (323, d323), (324, d324), (325, d325)]
theorem fdL_ok : ∀ p ∈ fdL, AFdOk Tryz.prog p.1 p.2 := by
  unfold fdL
  simp only [List.forall_mem_cons, List.not_mem_nil, false_imp_iff, implies_true, and_true]
  exact ⟨k9, k21, k7, k26, k34, k15, k16, k17, k23, k40, k41, k29, k30, k31, k35, k61, k62, k63, k64, k65, k67, k66, k68, k69, k70, k71, k36, k37, k42, k43, k75, k76, k77, k78, k79, k80, k81, k82, k83, k84, k85, k86, k87, k88, k89, k90, k92, k93, k94, k11, k95, k91, k96, k44, k45, k46, k47, k48, k49, k50, k51, k52, k72, k73, k97, k98, k99, k100, k101, k102, k103, k104, k105, k107, k108, k109, k110, k111, k112, k113, k114, k115, k116, k117, k118, k119, k120, k121, k123, k122, k125, k126, k127, k130, k131, k132, k133, k134, k128, k129, k135, k136, k137, k138, k140, k139, k141, k106, k149, k151, k152, k153, k154, k155, k156, k150, k157, k158, k159, k161, k160, k162, k163, k164, k165, k124, k166, k167, k168, k169, k174, k176, k177, k178, k179, k180, k181, k182, k183, k184, k185, k186, k187, k189, k188, k190, k191, k192, k194, k193, k195, k196, k171, k170, k173, k172, k197, k198, k199, k145, k200, k201, k202, k142, k143, k144, k146, k147, k148, k211, k212, k213, k214, k216, k217, k218, k219, k220, k175, k231, k232, k233, k234, k235, k236, k237, k238, k239, k240, k241, k242, k227, k221, k222, k223, k224, k225, k226, k228, k229, k243, k244, k245, k246, k247, k203, k204, k205, k207, k206, k208, k209, k210, k215, k254, k255, k256, k257, k230, k271, k272, k273, k274, k275, k276, k277, k278, k279, k280, k281, k282, k258, k259, k260, k261, k264, k263, k265, k266, k267, k268, k269, k283, k248, k249, k250, k251, k252, k253, k286, k270, k298, k299, k300, k301, k287, k288, k262, k293, k294, k289, k290, k291, k292, k295, k296, k297, k285, k284, k302, k303, k305, k304, k306, k307, k317, k318, k308, k309, k310, k311, k312, k313, k314, k315, k316, k319, k320, k321, k322, k323, k324, k325⟩
noncomputable def fns : Nat → Option AFd := find (fdTree fdL)
theorem fns_ok : FnsOk Tryz.prog fns := FnsOk.mk fdL_ok
noncomputable def tau : Ty := tyTree Tryz.prog 425
theorem tau_ok : TyOk Tryz.prog tau := tyTree_ok _ _
end Go.Proofs.YtmiekonofocboaaGreatDoor.AW
