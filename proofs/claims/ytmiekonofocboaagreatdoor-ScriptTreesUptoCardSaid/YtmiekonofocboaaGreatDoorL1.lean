/- 'middenlaw24.ScriptTrees', where what it reads is of bulk at most 1048576: the row, and its tied card. -/
import Derived.Test.YtmiekonofocboaaGreatDoorD7
import Derived.Test.YtmiekonofocboaaGreatDoorFC
namespace Go.Proofs.YtmiekonofocboaaGreatDoor.L1
open Go Go.Eng Go.AM Go.Proofs Go.Proofs.YtmiekonofocboaaGreatDoor.M Go.Proofs.YtmiekonofocboaaGreatDoor.Q
open Go.ChangeShapes Go.WideShapes Go.ChangeAt Go.RowKit
set_option linter.unusedVariables false
set_option linter.unusedSectionVars false
set_option maxRecDepth 100000
abbrev wit : Array Value := #[.agg #[.int .i64 0, .string ⟨#[]⟩, .int .i64 0, .slice none 0 0]]
theorem reads (os : Os) {H : Type} (enc : TypeId × Value → H) : ∃ places, DataW.whole enc Tryz.prog ((laidWorld os).forCall (fun _ _ => 0) ⟨#[], wit, []⟩).memory Tryz.f4.params.toList Rows.scriptTreesSpec.vars false wit.toList 8 = some ([.agg [.lit (.int .i64 0), .lit (.string []), .lit (.int .i64 0), .nil]], [], places) :=
  ⟨[], by kernel_rfl⟩
theorem treeTys : TreeTys.In ⟨3, 2, 9, 35, 33⟩ Tryz.prog :=
  ⟨⟨Tryz.underlying3, by kernel_rfl⟩, ⟨Tryz.underlying2, by kernel_rfl⟩, ⟨Tryz.underlying9, by kernel_rfl⟩, ⟨⟨_, Tryz.underlying35, rfl⟩, by kernel_rfl⟩, ⟨Tryz.underlying33, by kernel_rfl⟩⟩
theorem lifted (os : Os) (started : os.Started) (H : Type) (enc : TypeId × Value → H) (F : Stop.Interp) :
    ReturnsInHanded {} Tryz.checked os 4 .any ((Rows.OpenSpec.upto Rows.scriptTreesSpec).preRow enc Tryz.prog Tryz.f4 Rows.scriptTreesUptoRow.domain false Rows.scriptTreesUptoRow.laid) (((Rows.OpenSpec.upto Rows.scriptTreesSpec).at F).post enc Tryz.prog Tryz.f4 false true false false) := by
  obtain ⟨places, hx⟩ := reads os enc
  refine returnsInHanded_of_row (C := Tryz.checked) (s := Rows.OpenSpec.upto Rows.scriptTreesSpec) own started (by kernel_rfl) Tryz.func4
    (witness_row_at (enc := enc) (C := Tryz.checked) false (laidWorld os) wit rfl (by kernel_rfl) (by kernel_rfl) (by kernel_rfl)
      (OpenSpec.preRow_of_cond 8 hx (by kernel_rfl) (fun k hk => by cases hk; kernel_rfl) (by kernel_rfl) (laid_met os _))) ?_
  intro W base args ds gs before hval0 hW _ hcond _ hL _ _
  have hval : ∀ (j : Nat) t v, Tryz.f4.params[j]? = some t → args[j]? = some v → Value.okWide Tryz.prog W .any base t v := hval0
  have hW' := hW
  obtain ⟨p, q, hA0, hV, rfl, hfz, hnd⟩ := hW
  have hA : DataW.TrodAll enc Tryz.prog W 0 (fun _ => true) true Tryz.f4.params.toList args.toList ds p := hA0
  rw [Tryz.params4] at hA hval
  obtain ⟨v0, vs0, d0, ds0, p0, q0, hargs, rfl, rfl, h0, r0⟩ := trodAll_cons hA
  obtain ⟨rfl, rfl, rfl⟩ := trodAll_nil r0
  obtain rfl : args = #[v0] := by cases args; simp_all
  obtain ⟨rfl, rfl⟩ := trodVars_none hV
  obtain ⟨cs, rfl, _⟩ := okWide_struct Tryz.underlying35 (hval 0 35 v0 rfl rfl)
  obtain ⟨t, k1, k2, k3⟩ : ∃ t, RTree (whole W) t cs.toList ∧ t.ok ∧ t.size ≤ Rows.uptoBulk d0 := by
    obtain ⟨fuel, hf⟩ := h0
    exact reads_tree treeTys fuel _ _ hf
  have hlt := hW'.lt
  have hk := hcond _ rfl
  have hbulk : Rows.uptoBulkAll [d0] ≤ 1048576 := by
    simpa [Rows.uptoSmall] using hk
  simp only [Rows.uptoBulkAll] at hbulk
  refine (PFn.calls (Fn.mono (law_trees t k2 (by omega) (whole W) cs.toList k1 (globs_of_laid hL)) fun v F1 R1 _ h => h)).mono fun e W' ⟨he, bel⟩ => ?_
  subst he
  exact ⟨_, rfl, _, _, _, [], _, [], hW', trodAll_mk1 (shut_bool Tryz.underlying4 _), trodAll_mk1 (Below.trod laidOut (by kernel_rfl) (of_decide_eq_true (by kernel_rfl)) h0 bel fun x hx => hlt x (by simp_all)), rfl, bel.frame _, fun h => by cases h⟩
theorem said : Rows.ScriptTreesUptoSaid :=
  OpenClaim.holds_of_cond 4 Tryz.f4 rfl rfl rfl rfl rfl rfl rfl ⟨rfl, rfl, rfl, rfl, rfl⟩ rfl rfl rfl rfl rfl (by kernel_rfl) Tryz.func4 FC.facts
    (of_decide_eq_true (by kernel_rfl)) (by unfold Func.isWrapper; first | (rw [if_pos (by decide +kernel)]; kernel_rfl) | (rw [if_neg (by decide +kernel)]; exact ⟨rfl, rfl⟩))
    (fun os started H enc _ F => by rw [OpenClaim.pre_eq_preRow]; exact lifted os started H enc F)
theorem plain (f : FuncId) (fn : Func) (hf : Tryz.pinned.checked.prog.funcNamed "midden/middenlaw24.ScriptTrees" = some f) (hfn : Tryz.pinned.checked.prog.funcs[f]? = some fn) :
    true = Tryz.pinned.checked.prog.looks [] ∧ ∀ (j : Nat) t, fn.params[j]? = some t → Tryz.pinned.checked.prog.wantsStandIn t = false := by
  obtain rfl : f = 4 := Option.some.inj ((show Tryz.prog.funcNamed "midden/middenlaw24.ScriptTrees" = some 4 by kernel_rfl).symm.trans hf) |>.symm
  obtain rfl : fn = Tryz.f4 := (Option.some.inj (Tryz.func4.symm.trans hfn)).symm
  refine ⟨by kernel_rfl, fun j t ht => ?_⟩
  rw [Tryz.params4] at ht
  obtain rfl : t = 35 := by simpa using Array.mem_of_getElem? ht
  exact (show Tryz.prog.wantsStandIn 35 = false by kernel_rfl)
/-- 'middenlaw24.ScriptTrees', of bulk at most 1048576: the card, tied. -/
theorem scriptTrees_holds : Rows.ScriptTreesUptoCardSaid :=
  Claim7.holds_tied_plain_at .later [] _ _ _ _ said (fun _ h => by cases h) (by kernel_rfl) (fun _ h => by cases h) scriptTreesUpto_row_tie rfl ⟨rfl, rfl⟩ (by kernel_rfl) rfl plain (by kernel_rfl)
end Go.Proofs.YtmiekonofocboaaGreatDoor.L1
