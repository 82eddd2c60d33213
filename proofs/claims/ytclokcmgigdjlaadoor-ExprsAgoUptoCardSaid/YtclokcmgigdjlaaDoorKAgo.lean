/- Proved: for any two trees and any operator that are together of bulk at most 1048576, ExprsAgo answers true (the tied card of the second form). -/
import Derived.Test.YtclokcmgigdjlaaDoorG
import Derived.Test.YtclokcmgigdjlaaDoorE
import Derived.Test.YtclokcmgigdjlaaDoorA
set_option linter.unusedVariables false
set_option linter.unusedSimpArgs false
namespace Go.Proofs.YtclokcmgigdjlaaDoor
open Go.FL Go.RowKit Go.ChangeShapes Go.WideShapes Go.ChangeAt
theorem exprsAgo_reads (os : Os) {H : Type} (enc : TypeId × Value → H) : ∃ places, DataW.whole enc Tryd.prog ((laidWorld os).forCall (fun _ _ => 0) ⟨#[], #[.agg #[.int .u8 0, .int .i64 0, .string ⟨#[]⟩, .slice none 0 0], .agg #[.int .u8 0, .int .i64 0, .string ⟨#[]⟩, .slice none 0 0], .int .u8 0], []⟩).memory Tryd.f3.params.toList Rows.exprsAgoSpec.vars false (#[.agg #[.int .u8 0, .int .i64 0, .string ⟨#[]⟩, .slice none 0 0], .agg #[.int .u8 0, .int .i64 0, .string ⟨#[]⟩, .slice none 0 0], .int .u8 0] : Array Value).toList 8 = some ([.agg [.lit (.int .u8 0), .lit (.int .i64 0), .lit (.string []), .nil], .agg [.lit (.int .u8 0), .lit (.int .i64 0), .lit (.string []), .nil], .lit (.int .u8 0)], [], places) :=
  ⟨[], by kernel_rfl⟩
set_option maxRecDepth 100000 in
set_option maxHeartbeats 2000000 in
theorem exprsAgo_lifted (os : Os) (started : os.Started) (H : Type) (enc : TypeId × Value → H) (F : Stop.Interp) :
    ReturnsInHanded {} Tryd.checked os 3 .any ((Rows.OpenSpec.upto Rows.exprsAgoSpec).preRow enc Tryd.prog Tryd.f3 Rows.exprsAgoUptoRow.domain false Rows.exprsAgoUptoRow.laid) (((Rows.OpenSpec.upto Rows.exprsAgoSpec).at F).post enc Tryd.prog Tryd.f3 false true false false) := by
  obtain ⟨places, hx⟩ := exprsAgo_reads os enc
  refine returnsInHanded_of_row (C := Tryd.checked) (s := Rows.OpenSpec.upto Rows.exprsAgoSpec) own started (by kernel_rfl) Tryd.func3
    (witness_row_atRef (enc := enc) (C := Tryd.checked) false (laidWorld os) #[.agg #[.int .u8 0, .int .i64 0, .string ⟨#[]⟩, .slice none 0 0], .agg #[.int .u8 0, .int .i64 0, .string ⟨#[]⟩, .slice none 0 0], .int .u8 0] rfl (by kernel_rfl) (by kernel_rfl) (by kernel_rfl)
      (OpenSpec.preRow_of_cond 8 hx (by kernel_rfl) (fun k hk => by cases hk; kernel_rfl) (by kernel_rfl) (exprsAgo_laid os _))) ?_
  intro W base args ds gs before hval0 hW _ hcond _ hL hsh _
  have hG : Gl W := gl_of hL hsh
  have hval : ∀ (j : Nat) t v, Tryd.f3.params[j]? = some t → args[j]? = some v → Value.okWide Tryd.prog W .any base t v := hval0
  have hW' : DataW.Whole enc Tryd.prog Tryd.f3.params.toList Rows.exprsAgoSpec.vars false W args.toList ds gs before := hW
  obtain ⟨p, q, hA0, hV0, rfl, _, _⟩ := hW
  have hA : DataW.TrodAll enc Tryd.prog W 0 (fun _ => true) true Tryd.f3.params.toList args.toList ds p := hA0
  obtain ⟨rfl, rfl⟩ := trodVars_none hV0
  rw [Tryd.params3] at hA hval
  obtain ⟨v0, vs0, d0, ds0, p0, q0, hargs, rfl, rfl, h0, r0⟩ := trodAll_cons hA
  obtain ⟨v1, v2, d1, d2, p1, p2, hv12, rfl, rfl, h1, h2⟩ := trodAll_two r0
  obtain rfl : args = #[v0, v1, v2] := by cases args; simp_all
  have hb : Rows.uptoBulkAll [d0, d1, d2] ≤ 1048576 := of_decide_eq_true (hcond _ rfl)
  simp only [Rows.uptoBulkAll] at hb
  obtain ⟨x, Ax, cx, rfl, hTx, hzx⟩ := open_expr (hval 0 25 v0 rfl rfl) h0 (by omega)
  obtain ⟨y, Ay, cy, rfl, hTy, hzy⟩ := open_expr (hval 1 25 v1 rfl rfl) h1 (by omega)
  obtain ⟨o, rfl, rfl, rfl, wo⟩ := open_int Tryd.underlying22 (hval 2 22 v2 rfl rfl) h2
  refine (ago_walk x y Ax Ay cx cy _ o W hTx hTy (Nat.le_refl _) (by omega) (by omega) hG).mono fun e W' ⟨he, hE⟩ => ?_
  subst he
  exact ⟨_, rfl, post_true (tb := 4) hW' hE laidOut (by kernel_rfl) rfl Tryd.underlying4 rfl rfl⟩
theorem exprsAgo_said : Rows.ExprsAgoUptoSaid :=
  OpenClaim.holds_of_cond 3 Tryd.f3 rfl rfl rfl rfl rfl rfl rfl ⟨rfl, rfl, rfl, rfl, rfl⟩ rfl rfl rfl rfl rfl (by kernel_rfl) Tryd.func3 (by kernel_rfl)
    (of_decide_eq_true (by kernel_rfl)) (by unfold Func.isWrapper; first | (rw [if_pos (by decide +kernel)]; kernel_rfl) | (rw [if_neg (by decide +kernel)]; exact ⟨rfl, rfl⟩))
    (fun os started H enc _ F => by rw [OpenClaim.pre_eq_preRow]; exact exprsAgo_lifted os started H enc F)
theorem exprsAgo_plain (f : FuncId) (fn : Func) (hf : Tryd.pinned.checked.prog.funcNamed "belfry/belfrylaw05.ExprsAgo" = some f) (hfn : Tryd.pinned.checked.prog.funcs[f]? = some fn) :
    true = Tryd.pinned.checked.prog.looks [] ∧ ∀ (j : Nat) t, fn.params[j]? = some t → Tryd.pinned.checked.prog.wantsStandIn t = false := by
  obtain rfl : f = 3 := Option.some.inj ((show Tryd.prog.funcNamed "belfry/belfrylaw05.ExprsAgo" = some 3 by kernel_rfl).symm.trans hf) |>.symm
  obtain rfl : fn = Tryd.f3 := (Option.some.inj (Tryd.func3.symm.trans hfn)).symm
  refine ⟨by kernel_rfl, fun j t ht => ?_⟩
  have h := List.all_eq_true.1 (show (Tryd.f3.params.toList.all fun t => !Tryd.prog.wantsStandIn t) = true by kernel_rfl) t (by simpa using Array.mem_of_getElem? ht)
  show Tryd.prog.wantsStandIn t = false
  simpa using h
/-- The card. -/
theorem exprsAgo_holds : Rows.ExprsAgoUptoCardSaid :=
  Claim7.holds_tied_plain_at .later [] _ _ _ _ exprsAgo_said (fun _ h => by cases h) (by kernel_rfl) (fun _ h => by cases h) exprsAgoUpto_row_tie rfl ⟨rfl, rfl⟩ (by kernel_rfl) rfl exprsAgo_plain (by kernel_rfl)
end Go.Proofs.YtclokcmgigdjlaaDoor
