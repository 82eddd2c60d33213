/- Proved: for any number of 16 bits, ExprsGreat answers true (the tied card of the first form, no bound). -/
import Derived.Test.YtclokcmgigdjlaaDoorGw
import Derived.Test.YtclokcmgigdjlaaDoorE
set_option linter.unusedVariables false
set_option linter.unusedSimpArgs false
namespace Go.Proofs.YtclokcmgigdjlaaDoor
open Go.FL Go.RowKit Go.ChangeShapes Go.WideShapes Go.ChangeAt
theorem exprsGreat_reads (os : Os) {H : Type} (enc : TypeId × Value → H) : ∃ places, DataW.whole enc Tryd.prog ((laidWorld os).forCall (fun _ _ => 0) ⟨#[], #[.int .u16 0], []⟩).memory Tryd.f4.params.toList Rows.exprsGreatSpec.vars false (#[.int .u16 0] : Array Value).toList 8 = some ([.lit (.int .u16 0)], [], places) :=
  ⟨[], by kernel_rfl⟩
set_option maxRecDepth 100000 in
set_option maxHeartbeats 2000000 in
theorem exprsGreat_lifted (os : Os) (started : os.Started) (H : Type) (enc : TypeId × Value → H) (F : Stop.Interp) :
    ReturnsInHanded {} Tryd.checked os 4 .any ((OpenSpec.ofChange Rows.exprsGreatSpec).preRow enc Tryd.prog Tryd.f4 Rows.exprsGreatRow.domain false Rows.exprsGreatRow.laid) (((OpenSpec.ofChange Rows.exprsGreatSpec).at F).post enc Tryd.prog Tryd.f4 false true false false) := by
  obtain ⟨places, hx⟩ := exprsGreat_reads os enc
  refine returnsInHanded_of_row (C := Tryd.checked) (s := OpenSpec.ofChange Rows.exprsGreatSpec) own started (by kernel_rfl) Tryd.func4
    (witness_row_atRef (enc := enc) (C := Tryd.checked) false (laidWorld os) #[.int .u16 0] rfl (by kernel_rfl) (by kernel_rfl) (by kernel_rfl)
      (OpenSpec.preRow_of_cond 8 hx (by kernel_rfl) (fun k hk => by cases hk) (by kernel_rfl) (exprsGreat_laid os _))) ?_
  intro W base args ds gs before hval0 hW _ hcond _ hL hsh _
  have hG : Gl W := gl_of hL hsh
  have hval : ∀ (j : Nat) t v, Tryd.f4.params[j]? = some t → args[j]? = some v → Value.okWide Tryd.prog W .any base t v := hval0
  have hW' : DataW.Whole enc Tryd.prog Tryd.f4.params.toList Rows.exprsGreatSpec.vars false W args.toList ds gs before := hW
  obtain ⟨p, q, hA0, hV0, rfl, _, _⟩ := hW
  have hA : DataW.TrodAll enc Tryd.prog W 0 (fun _ => true) true Tryd.f4.params.toList args.toList ds p := hA0
  obtain ⟨rfl, rfl⟩ := trodVars_none hV0
  rw [Tryd.params4] at hA hval
  obtain ⟨v0, d0, hv0, rfl, h0⟩ := trodAll_one hA
  obtain rfl : args = #[v0] := by cases args; simp_all
  obtain ⟨o, rfl, rfl, rfl, wo⟩ := open_int Tryd.underlying35 (hval 0 35 v0 rfl rfl) h0
  obtain ⟨ho0, ho1⟩ := bounds_u16 wo
  obtain ⟨o, rfl⟩ := Int.eq_ofNat_of_zero_le ho0
  refine (great_walk o (by omega) W hG).mono fun e W' ⟨he, hE⟩ => ?_
  subst he
  exact ⟨_, rfl, post_true (tb := 4) hW' hE laidOut (by kernel_rfl) rfl Tryd.underlying4 rfl rfl⟩
theorem exprsGreat_said : Rows.ExprsGreatSaid :=
  OpenClaim.holds_of_cond 4 Tryd.f4 rfl rfl rfl rfl rfl rfl rfl ⟨rfl, rfl, rfl, rfl, rfl⟩ rfl rfl rfl rfl rfl (by kernel_rfl) Tryd.func4 (by kernel_rfl)
    (of_decide_eq_true (by kernel_rfl)) (by unfold Func.isWrapper; first | (rw [if_pos (by decide +kernel)]; kernel_rfl) | (rw [if_neg (by decide +kernel)]; exact ⟨rfl, rfl⟩))
    (fun os started H enc _ F => by rw [OpenClaim.pre_eq_preRow]; exact exprsGreat_lifted os started H enc F)
theorem exprsGreat_plain (f : FuncId) (fn : Func) (hf : Tryd.pinned.checked.prog.funcNamed "belfry/belfrylaw05.ExprsGreat" = some f) (hfn : Tryd.pinned.checked.prog.funcs[f]? = some fn) :
    true = Tryd.pinned.checked.prog.looks [] ∧ ∀ (j : Nat) t, fn.params[j]? = some t → Tryd.pinned.checked.prog.wantsStandIn t = false := by
  obtain rfl : f = 4 := Option.some.inj ((show Tryd.prog.funcNamed "belfry/belfrylaw05.ExprsGreat" = some 4 by kernel_rfl).symm.trans hf) |>.symm
  obtain rfl : fn = Tryd.f4 := (Option.some.inj (Tryd.func4.symm.trans hfn)).symm
  refine ⟨by kernel_rfl, fun j t ht => ?_⟩
  have h := List.all_eq_true.1 (show (Tryd.f4.params.toList.all fun t => !Tryd.prog.wantsStandIn t) = true by kernel_rfl) t (by simpa using Array.mem_of_getElem? ht)
  show Tryd.prog.wantsStandIn t = false
  simpa using h
/-- The card. -/
theorem exprsGreat_holds : Rows.ExprsGreatCardSaid :=
  Claim7.holds_tied_plain_at .later [] _ _ _ _ exprsGreat_said (fun _ h => by cases h) (by kernel_rfl) (fun _ h => by cases h) exprsGreat_row_tie rfl ⟨rfl, rfl⟩ (by kernel_rfl) rfl exprsGreat_plain (by kernel_rfl)
end Go.Proofs.YtclokcmgigdjlaaDoor
