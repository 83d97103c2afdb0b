/- 'middenlaw24.ScriptBack', where what it reads is of bulk at most 1048576: the row, and its tied card. -/
import Derived.Test.YtmiekonofocboaaGreatDoorWG
import Derived.Test.YtmiekonofocboaaGreatDoorNC
import Derived.Test.YtmiekonofocboaaGreatDoorAV
import Derived.Test.YtmiekonofocboaaGreatDoorFG
namespace Go.Proofs.YtmiekonofocboaaGreatDoor.L4
open Go Go.Eng Go.AM Go.Proofs Go.Proofs.YtmiekonofocboaaGreatDoor.M Go.Proofs.YtmiekonofocboaaGreatDoor.Q
open Go.ChangeMaps (open_string shut_string)
open Go.ChangeShapes Go.WideShapes Go.ChangeAt Go.RowKit
set_option linter.unusedVariables false
set_option linter.unusedSectionVars false
set_option maxRecDepth 100000
abbrev wit : Array Value := #[.agg #[.int .i64 0, .int .i64 0, .int .i64 0, .int .i64 0, .int .i64 0, .int .i64 0, .string ⟨#[]⟩, .slice none 0 0], .string ⟨#[]⟩]
theorem reads (os : Os) {H : Type} (enc : TypeId × Value → H) : ∃ places, DataW.whole enc Tryz.prog ((laidWorld os).forCall (fun _ _ => 0) ⟨#[], wit, []⟩).memory Tryz.f6.params.toList Rows.scriptBackSpec.vars false wit.toList 8 = some ([.agg [.agg [.lit (.int .i64 0), .lit (.int .i64 0), .lit (.int .i64 0), .lit (.int .i64 0), .lit (.int .i64 0)], .lit (.int .i64 0), .lit (.string []), .nil], .lit (.string [])], [], places) :=
  ⟨[], by kernel_rfl⟩
theorem GlobIn.mono {F G : PH} {gl : List (Nat × X)} (h : GlobIn F gl) (hl : F.le G) : GlobIn G gl := fun p hp =>
  let ⟨h1, vs, c, t, fr, h2, h3⟩ := h p hp
  ⟨h1, vs, c, t, fr, hl _ _ h2, h3⟩
theorem scrTys : ScrTys.In ⟨3, 2, 9, 47, 49, 51, 24, 23, 26⟩ Tryz.prog :=
  ⟨⟨Tryz.underlying3, by kernel_rfl⟩, ⟨Tryz.underlying2, by kernel_rfl⟩, ⟨Tryz.underlying9, by kernel_rfl⟩, ⟨Tryz.underlying47, by kernel_rfl⟩, ⟨⟨_, Tryz.underlying49, rfl⟩, by kernel_rfl⟩, ⟨⟨_, Tryz.underlying51, rfl⟩, by kernel_rfl⟩, ⟨Tryz.underlying24, by kernel_rfl⟩, ⟨⟨_, Tryz.underlying23, rfl⟩, by kernel_rfl⟩, ⟨⟨_, Tryz.underlying26, rfl⟩, by kernel_rfl⟩⟩
theorem lifted (os : Os) (started : os.Started) (H : Type) (enc : TypeId × Value → H) (F : Stop.Interp) :
    ReturnsInHanded {} Tryz.checked os 6 .any ((Rows.OpenSpec.upto Rows.scriptBackSpec).preRow enc Tryz.prog Tryz.f6 Rows.scriptBackUptoRow.domain false Rows.scriptBackUptoRow.laid) (((Rows.OpenSpec.upto Rows.scriptBackSpec).at F).post enc Tryz.prog Tryz.f6 false true false false) := by
  obtain ⟨places, hx⟩ := reads os enc
  refine returnsInHanded_of_row (C := Tryz.checked) (s := Rows.OpenSpec.upto Rows.scriptBackSpec) own started (by kernel_rfl) Tryz.func6
    (witness_row_at (enc := enc) (C := Tryz.checked) false (laidWorld os) wit rfl (by kernel_rfl) (by kernel_rfl) (by kernel_rfl)
      (OpenSpec.preRow_of_cond 8 hx (by kernel_rfl) (fun k hk => by cases hk; kernel_rfl) (by kernel_rfl) (laid_met os _))) ?_
  intro W base args ds gs before hval0 hW _ hcond _ hL _ _
  have hval : ∀ (j : Nat) t v, Tryz.f6.params[j]? = some t → args[j]? = some v → Value.okWide Tryz.prog W .any base t v := hval0
  have hW' := hW
  obtain ⟨p, q, hA0, hV, rfl, hfz, hnd⟩ := hW
  have hA : DataW.TrodAll enc Tryz.prog W 0 (fun _ => true) true Tryz.f6.params.toList args.toList ds p := hA0
  rw [Tryz.params6] at hA hval
  obtain ⟨v0, vs0, d0, ds0, p0, q0, hargs, rfl, rfl, h0, r0⟩ := trodAll_cons hA
  obtain ⟨v1, vs1, d1, ds1, p1, q1, hargs1, rfl, rfl, h1, r1⟩ := trodAll_cons r0
  obtain ⟨rfl, rfl, rfl⟩ := trodAll_nil r1
  obtain rfl : args = #[v0, v1] := by cases args; simp_all
  obtain ⟨rfl, rfl⟩ := trodVars_none hV
  obtain ⟨cs, rfl, _⟩ := okWide_struct Tryz.underlying26 (hval 0 26 v0 rfl rfl)
  obtain ⟨t, k1, k2, k3⟩ : ∃ t : ScrD, RScr (whole W) t cs.toList ∧ ScrW t ∧ t.text.size + sumOf LineD.size t.lines ≤ Rows.uptoBulk d0 := by
    obtain ⟨fuel, hf⟩ := h0
    exact reads_scr scrTys fuel _ _ hf
  obtain ⟨s, rfl, rfl, rfl, hs⟩ := open_string Tryz.underlying9 (hval 1 9 v1 rfl rfl) h1
  have hlt := hW'.lt
  have hk := hcond _ rfl
  have hbulk : Rows.uptoBulkAll [d0, DataW.lit (H := H) (.string s.data.toList)] ≤ 1048576 := by
    simpa [Rows.uptoSmall] using hk
  simp only [Rows.uptoBulkAll, Rows.uptoBulk, string_eq] at hbulk
  have hsz : s.size ≤ 1048576 := by omega
  refine (PFn.calls (Fn.mono (law_back t (k2.ok (by omega)) s hsz (whole W) cs.toList k1 fun G hG => AV.awake (GlobIn.mono (globs_of_laid hL) hG)) fun v F1 R1 _ h => h)).mono fun e W' ⟨he, bel⟩ => ?_
  subst he
  exact ⟨_, rfl, _, _, _, [], _, [], hW', trodAll_mk1 (shut_bool Tryz.underlying4 _), trodAll_mk2 (Below.trod laidOut (by kernel_rfl) (of_decide_eq_true (by kernel_rfl)) h0 bel fun x hx => hlt x (by simp_all)) (shut_string Tryz.underlying9 hs), rfl, bel.frame _, fun h => by cases h⟩
theorem said : Rows.ScriptBackUptoSaid :=
  OpenClaim.holds_of_cond 6 Tryz.f6 rfl rfl rfl rfl rfl rfl rfl ⟨rfl, rfl, rfl, rfl, rfl⟩ rfl rfl rfl rfl rfl (by kernel_rfl) Tryz.func6 FG.facts
    (of_decide_eq_true (by kernel_rfl)) (by unfold Func.isWrapper; first | (rw [if_pos (by decide +kernel)]; kernel_rfl) | (rw [if_neg (by decide +kernel)]; exact ⟨rfl, rfl⟩))
    (fun os started H enc _ F => by rw [OpenClaim.pre_eq_preRow]; exact lifted os started H enc F)
theorem plain (f : FuncId) (fn : Func) (hf : Tryz.pinned.checked.prog.funcNamed "midden/middenlaw24.ScriptBack" = some f) (hfn : Tryz.pinned.checked.prog.funcs[f]? = some fn) :
    true = Tryz.pinned.checked.prog.looks [] ∧ ∀ (j : Nat) t, fn.params[j]? = some t → Tryz.pinned.checked.prog.wantsStandIn t = false := by
  obtain rfl : f = 6 := Option.some.inj ((show Tryz.prog.funcNamed "midden/middenlaw24.ScriptBack" = some 6 by kernel_rfl).symm.trans hf) |>.symm
  obtain rfl : fn = Tryz.f6 := (Option.some.inj (Tryz.func6.symm.trans hfn)).symm
  refine ⟨by kernel_rfl, fun j t ht => ?_⟩
  rw [Tryz.params6] at ht
  obtain rfl | rfl : t = 26 ∨ t = 9 := by simpa using Array.mem_of_getElem? ht
  · exact (show Tryz.prog.wantsStandIn 26 = false by kernel_rfl)
  · exact (show Tryz.prog.wantsStandIn 9 = false by kernel_rfl)
/-- 'middenlaw24.ScriptBack', of bulk at most 1048576: the card, tied. -/
theorem scriptBack_holds : Rows.ScriptBackUptoCardSaid :=
  Claim7.holds_tied_plain_at .later [] _ _ _ _ said (fun _ h => by cases h) (by kernel_rfl) (fun _ h => by cases h) scriptBackUpto_row_tie rfl ⟨rfl, rfl⟩ (by kernel_rfl) rfl plain (by kernel_rfl)
end Go.Proofs.YtmiekonofocboaaGreatDoor.L4
