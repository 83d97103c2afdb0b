/- Scripts: what a reading of them gives; 'middenlaw24.ScriptWrites', what it answers. -/
import Derived.Test.YtmiekonofocboaaGreatDoorWE
import Derived.Test.YtmiekonofocboaaGreatDoorWF
namespace Go.Proofs.YtmiekonofocboaaGreatDoor.Q
open Go Go.Eng Go.Lib Go.Proofs Go.Proofs.YtmiekonofocboaaGreatDoor.T Go.Proofs.YtmiekonofocboaaGreatDoor.K Go.Proofs.YtmiekonofocboaaGreatDoor.X Go.Proofs.YtmiekonofocboaaGreatDoor.Rows
set_option linter.unusedSimpArgs false
set_option linter.unusedVariables false
set_option linter.unusedSectionVars false
set_option maxRecDepth 100000
set_option maxHeartbeats 4000000
section
variable {H : Type} {enc : TypeId × Value → H} {P : Program} {w : World} {base : Nat} {spare : Nat → Bool} {held : Bool}
structure ScrTys where
  int : TypeId
  i64 : TypeId
  str : TypeId
  nums : TypeId
  point : TypeId
  line : TypeId
  lines : TypeId
  config : TypeId
  script : TypeId
structure ScrTys.In (T : ScrTys) (P : Program) : Prop where
  int : P.underlying T.int = some (.int .i64) ∧ P.cellsOf T.int = 1
  i64 : P.underlying T.i64 = some (.int .i64) ∧ P.cellsOf T.i64 = 1
  str : P.underlying T.str = some .string ∧ P.cellsOf T.str = 1
  nums : P.underlying T.nums = some (.slice T.i64) ∧ P.cellsOf T.nums = 1
  point : fieldsOf P T.point [(T.int, 0), (T.int, 1)] ∧ P.cellsOf T.point = 2
  line : fieldsOf P T.line [(T.int, 0), (T.int, 1), (T.str, 2), (T.nums, 3), (T.int, 4), (T.int, 5), (T.point, 6)] ∧ P.cellsOf T.line = 8
  lines : P.underlying T.lines = some (.slice T.line) ∧ P.cellsOf T.lines = 1
  config : fieldsOf P T.config [(T.int, 0), (T.int, 1), (T.int, 2), (T.int, 3), (T.int, 4)] ∧ P.cellsOf T.config = 5
  script : fieldsOf P T.script [(T.config, 0), (T.int, 5), (T.str, 6), (T.lines, 7)] ∧ P.cellsOf T.script = 8
theorem each_ints : ∀ {l : List Int} {xs : List Value}, Each (fun (n : Int) c => c = [.int .i64 n]) l xs → xs = l.map (.int .i64)
  | [], _, h => h
  | s :: l, _, ⟨c, ys, e, h1, h2⟩ => by subst e h1; rw [each_ints h2]; rfl
theorem sumOf_one : ∀ (l : List Int), sumOf (fun _ => 1) l = l.length
  | [] => rfl
  | a :: l => by simp only [sumOf, sumOf_one l, List.length_cons]; omega
theorem reads_nums {T : ScrTys} (hT : T.In P) (m : Nat) : Reads enc P w base spare held T.nums m (fun l c => ∃ v, c = [v] ∧ Ints (whole w) v l) (fun l => ∀ n ∈ l, I64 n) (fun l => l.length + 1) := by
  intro cs y h
  obtain ⟨v, l, rfl, ⟨xs, h1, h2⟩, h3, h4⟩ := reads_slice hT.nums.1 hT.i64.2 (fun m _ => reads_int hT.i64.1 m) (fun a c e => by rw [e]; rfl) h
  rw [each_ints h2] at h1
  exact ⟨l, ⟨v, rfl, h1⟩, h3, by rw [sumOf_one] at h4; exact h4⟩
theorem reads_point {T : ScrTys} (hT : T.In P) (m : Nat) : Reads enc P w base spare held T.point m (fun (s : Int × Int) c => c = [.int .i64 s.1, .int .i64 s.2]) (fun s => I64 s.1 ∧ I64 s.2) (fun s => 2) := by
  intro cs y h
  obtain ⟨xs, n, rfl, e, h1, h2, h3⟩ := reads_struct hT.point.1 h
  rw [hT.point.2] at h1
  match cs, h1, xs, h2 with
  | [c0, c1], _, [y0, y1], _ =>
    have a0 := h3 0 _ _ rfl
    have a1 := h3 1 _ _ rfl
    simp only [hT.int.2, List.drop_zero, List.drop_succ_cons, List.take_succ_cons, List.take_zero, List.take_nil, List.getElem?_cons_zero, List.getElem?_cons_succ] at a0 a1
    obtain ⟨s, r0, w0, z0⟩ := reads_int hT.int.1 _ _ _ a0
    obtain ⟨k, r1, w1, z1⟩ := reads_int hT.int.1 _ _ _ a1
    cases r0; cases r1
    refine ⟨(s, k), rfl, ⟨w0, w1⟩, ?_⟩
    rw [e]
    simp only [List.map_cons, List.map_nil, uptoBulk, uptoBulkAll]
    dsimp only at *
    omega
structure LineW (l : LineD) : Prop where
  n : I64' l.n
  depth : I64' l.depth
  fuel : I64' l.fuel
  at_ : I64' l.at_
  gen : I64' l.gen
  nums : ∀ n ∈ l.nums, I64' n
theorem reads_line {T : ScrTys} (hT : T.In P) (m : Nat) : Reads enc P w base spare held T.line m (RLine (whole w)) LineW LineD.size := by
  intro cs y h
  obtain ⟨xs, n, rfl, e, h1, h2, h3⟩ := reads_struct hT.line.1 h
  rw [hT.line.2] at h1
  match cs, h1, xs, h2 with
  | [c0, c1, c2, c3, c4, c5, c6, c7], _, [y0, y1, y2, y3, y4, y5, y6], _ =>
    have a0 := h3 0 _ _ rfl
    have a1 := h3 1 _ _ rfl
    have a2 := h3 2 _ _ rfl
    have a3 := h3 3 _ _ rfl
    have a4 := h3 4 _ _ rfl
    have a5 := h3 5 _ _ rfl
    have a6 := h3 6 _ _ rfl
    simp only [hT.int.2, hT.str.2, hT.nums.2, hT.point.2, List.drop_zero, List.drop_succ_cons, List.take_succ_cons, List.take_zero, List.take_nil, List.getElem?_cons_zero, List.getElem?_cons_succ] at a0 a1 a2 a3 a4 a5 a6
    obtain ⟨k0, r0, w0, z0⟩ := reads_int hT.int.1 _ _ _ a0
    obtain ⟨k1, r1, w1, z1⟩ := reads_int hT.int.1 _ _ _ a1
    obtain ⟨k2, r2, w2, z2⟩ := reads_str hT.str.1 _ _ _ a2
    obtain ⟨k3, ⟨v3, r3, r3'⟩, w3, z3⟩ := reads_nums hT _ _ _ a3
    obtain ⟨k4, r4, w4, z4⟩ := reads_int hT.int.1 _ _ _ a4
    obtain ⟨k5, r5, w5, z5⟩ := reads_int hT.int.1 _ _ _ a5
    obtain ⟨⟨k6, k7⟩, r6, w6, z6⟩ := reads_point hT _ _ _ a6
    cases r0; cases r1; cases r2; cases r3; cases r4; cases r5; cases r6
    refine ⟨⟨k0, k1, k2, k3, k4, k5, k6, k7⟩, ⟨_, rfl, r3'⟩, ⟨w1, w4, w5, w6.1, w6.2, w3⟩, ?_⟩
    rw [e]
    simp only [List.map_cons, List.map_nil, uptoBulk, uptoBulkAll, LineD.size]
    dsimp only at *
    omega
structure ScrW (s : ScrD) : Prop where
  gens : I64' s.gens
  steps : I64' s.steps
  blocks : I64' s.blocks
  nursery : I64' s.nursery
  hops : I64' s.hops
  words : I64' s.words
  lines : ∀ l ∈ s.lines, LineW l
theorem reads_config {T : ScrTys} (hT : T.In P) (m : Nat) : Reads enc P w base spare held T.config m (fun (s : Int × Int × Int × Int × Int) c => c = [.int .i64 s.1, .int .i64 s.2.1, .int .i64 s.2.2.1, .int .i64 s.2.2.2.1, .int .i64 s.2.2.2.2]) (fun s => I64 s.1 ∧ I64 s.2.1 ∧ I64 s.2.2.1 ∧ I64 s.2.2.2.1 ∧ I64 s.2.2.2.2) (fun s => 5) := by
  intro cs y h
  obtain ⟨xs, n, rfl, e, h1, h2, h3⟩ := reads_struct hT.config.1 h
  rw [hT.config.2] at h1
  match cs, h1, xs, h2 with
  | [c0, c1, c2, c3, c4], _, [y0, y1, y2, y3, y4], _ =>
    have a0 := h3 0 _ _ rfl
    have a1 := h3 1 _ _ rfl
    have a2 := h3 2 _ _ rfl
    have a3 := h3 3 _ _ rfl
    have a4 := h3 4 _ _ rfl
    simp only [hT.int.2, List.drop_zero, List.drop_succ_cons, List.take_succ_cons, List.take_zero, List.take_nil, List.getElem?_cons_zero, List.getElem?_cons_succ] at a0 a1 a2 a3 a4
    obtain ⟨k0, r0, w0, z0⟩ := reads_int hT.int.1 _ _ _ a0
    obtain ⟨k1, r1, w1, z1⟩ := reads_int hT.int.1 _ _ _ a1
    obtain ⟨k2, r2, w2, z2⟩ := reads_int hT.int.1 _ _ _ a2
    obtain ⟨k3, r3, w3, z3⟩ := reads_int hT.int.1 _ _ _ a3
    obtain ⟨k4, r4, w4, z4⟩ := reads_int hT.int.1 _ _ _ a4
    cases r0; cases r1; cases r2; cases r3; cases r4
    refine ⟨(k0, k1, k2, k3, k4), rfl, ⟨w0, w1, w2, w3, w4⟩, ?_⟩
    rw [e]
    simp only [List.map_cons, List.map_nil, uptoBulk, uptoBulkAll]
    dsimp only at *
    omega
theorem reads_scr {T : ScrTys} (hT : T.In P) (m : Nat) : Reads enc P w base spare held T.script m (RScr (whole w)) ScrW (fun s => s.text.size + sumOf LineD.size s.lines) := by
  intro cs y h
  obtain ⟨xs, n, rfl, e, h1, h2, h3⟩ := reads_struct hT.script.1 h
  rw [hT.script.2] at h1
  match cs, h1, xs, h2 with
  | [c0, c1, c2, c3, c4, c5, c6, c7], _, [y0, y1, y2, y3], _ =>
    have a0 := h3 0 _ _ rfl
    have a1 := h3 1 _ _ rfl
    have a2 := h3 2 _ _ rfl
    have a3 := h3 3 _ _ rfl
    simp only [hT.int.2, hT.str.2, hT.config.2, hT.lines.2, List.drop_zero, List.drop_succ_cons, List.take_succ_cons, List.take_zero, List.take_nil, List.getElem?_cons_zero, List.getElem?_cons_succ] at a0 a1 a2 a3
    obtain ⟨⟨k0, k1, k2, k3, k4⟩, r0, w0, z0⟩ := reads_config hT _ _ _ a0
    obtain ⟨k5, r5, w5, z5⟩ := reads_int hT.int.1 _ _ _ a1
    obtain ⟨k6, r6, w6, z6⟩ := reads_str hT.str.1 _ _ _ a2
    obtain ⟨v7, l, r7, hl, w7, z7⟩ := reads_slice hT.lines.1 hT.line.2 (fun m' hm => reads_line hT m') (fun a c e => RLine.len e) a3
    cases r0; cases r5; cases r6; cases r7
    refine ⟨⟨k0, k1, k2, k3, k4, k5, k6, l⟩, ⟨_, rfl, hl⟩, ⟨w0.1, w0.2.1, w0.2.2.1, w0.2.2.2.1, w0.2.2.2.2, w5, w7⟩, ?_⟩
    rw [e]
    simp only [List.map_cons, List.map_nil, uptoBulk, uptoBulkAll]
    dsimp only at *
    omega
end
theorem size_mem : ∀ {l : List LineD} {x : LineD}, x ∈ l → x.size ≤ sumOf LineD.size l
  | e :: l, t, h => by
    simp only [sumOf]
    rcases List.mem_cons.1 h with rfl | h
    · omega
    · have := size_mem h; omega
theorem ScrW.ok {s : ScrD} (h : ScrW s) (hb : s.text.size + sumOf LineD.size s.lines ≤ 1048576) : ScrOk s :=
  ⟨h.gens, h.steps, h.blocks, h.nursery, h.hops, h.words, by omega, fun l hl => by
    have h1 := h.lines l hl
    have h2 := size_mem hl
    have h3 : l.size = l.name.size + l.nums.length + 8 := rfl
    exact ⟨h1.n, h1.depth, h1.fuel, h1.at_, h1.gen, h1.nums, by omega, by omega⟩, by omega⟩
theorem law_writes (s : ScrD) (hok : ScrOk s) (F : PH) (cs : List Value) (hcs : RScr F s cs) (aw : ∀ G : PH, F.le G → PFn Tryz.prog 9 [] G (fun v F' => v = .bool true ∧ F' = G)) :
    PFn Tryz.prog 5 [.agg cs.toArray] F (fun v _ => v = .bool true) := by
  have hcs0 := hcs
  obtain ⟨v, rfl, xs, ⟨p, c, rfl, hnc, hcm, hsrc⟩, he⟩ := hcs0
  have hmono : ∀ G, F.le G → RScr G s (scrC s (.slice p s.lines.length c)) := fun G hG => ⟨_, rfl, xs, ⟨p, c, rfl, hnc, hcm, hsrc.mono hG⟩, he.mono fun l _ c h => h.mono hG⟩
  refine Fn.intro (n := 28) (ts := [2]) Tryz.func5 rfl rfl rfl rfl (by simp) fun B hB => VC.go 100 ?_
  simp only [push_cast, ↓reduceIte, Nat.reduceEqDiff, Nat.reduceAdd, Nat.reduceMul, Nat.reduceSub, Nat.reduceLT, Nat.reduceLeDiff, reduceCtorEq, Nat.reduceMod, Int.reduceEq, Int.reduceLT, Int.reduceLE, Int.reduceToNat, dite_true]
  intro b
  have h1 := writeS s hok F _ (hmono F (PH.le_refl _))
  refine CallV.pure h1 ?_
  rintro _ F1 hF1 rfl
  simp only [push_cast, ↓reduceIte, Nat.reduceEqDiff, Nat.reduceAdd, Nat.reduceMul, Nat.reduceSub, Nat.reduceLT, Nat.reduceLeDiff, reduceCtorEq, Nat.reduceMod, Int.reduceEq, Int.reduceLT, Int.reduceLE, Int.reduceToNat, dite_true]
  have h2 := ref_writeS s hok F1 _ (hmono F1 hF1)
  refine CallV.pure h2 ?_
  rintro _ F2 hF2 rfl
  simp only [push_cast, ↓reduceIte, Nat.reduceEqDiff, Nat.reduceAdd, Nat.reduceMul, Nat.reduceSub, Nat.reduceLT, Nat.reduceLeDiff, reduceCtorEq, Nat.reduceMod, Int.reduceEq, Int.reduceLT, Int.reduceLE, Int.reduceToNat, dite_true]
  refine CallV.pure (aw F2 (PH.le_trans hF1 hF2)) ?_
  rintro _ F3 hF3 ⟨rfl, rfl⟩
  simp only [push_cast, ↓reduceIte, Nat.reduceEqDiff, Nat.reduceAdd, Nat.reduceMul, Nat.reduceSub, Nat.reduceLT, Nat.reduceLeDiff, reduceCtorEq, Nat.reduceMod, Int.reduceEq, Int.reduceLT, Int.reduceLE, Int.reduceToNat, dite_true, eq_self, decide_true]
  exact RetOk.p rfl rfl
end Go.Proofs.YtmiekonofocboaaGreatDoor.Q
