/- Printed by this session's own program out of the translation, and by hand. -/
import Derived.Test.YtclokcmgigdjlaaDoorS
set_option linter.unusedVariables false
set_option linter.unusedSimpArgs false
set_option maxRecDepth 4000
namespace Go.Proofs.YtclokcmgigdjlaaDoor
open Go.FL Go.RowKit Go.Proofs

/-! ### How much there is in a tree -/
def SizeAt (t : Ex) : Prop := ∀ (A : Option Addr) (c N : Nat) (w : World), Tr w (fun b => b < N) t A c → N ≤ w.heap.size → t.sz ≤ 1048576 →
  Calls Tryd.prog 8 #[.agg (t.cs A c).toArray] w fun e w' => e = .returned (.int .i64 (t.sz : Int)) ∧ Ext w w'
def SizesAt (t : Ex) : Prop := ∀ (A : Option Addr) (c N : Nat) (w : World), Tr w (fun b => b < N) t A c → N ≤ w.heap.size → t.sz ≤ 1048576 →
  Calls Tryd.prog 20 #[.slice A t.args.length c] w fun e w' => e = .returned (.int .i64 ((t.args.length + szs t.args : Nat) : Int)) ∧ Ext w w'

/-- belfry.belfrylaw01.ExprsSize -/
theorem sizes_step (t : Ex) (ih : ∀ (x : Ex) (i : Nat), t.args[i]? = some x → SizeAt x) (A : Option Addr) (c N : Nat) (w : World) (hT : Tr w (fun b => b < N) t A c) (hN : N ≤ w.heap.size) (hsz : t.sz ≤ 1048576) :
    Calls Tryd.prog 20 #[.slice A t.args.length c] w fun e w' => e = .returned (.int .i64 ((t.args.length + szs t.args : Nat) : Int)) ∧ Ext w w' := by
  refine calls_of Tryd.func20 rfl Tryd.ntmps20 rfl ?_
  have hEw := Kp.refl (fun _ => False) w
  refine W.seq ?_
  refine W.region ?_
  refine SQ.op rfl rfl rfl (r_assign rfl rfl) ?_
  refine SQ.nil ?_
  refine C.code ?_
  refine W.seq ?_
  refine W.region ?_
  refine SQ.op rfl rfl rfl (r_move rfl rfl) ?_
  refine SQ.op rfl rfl rfl (r_lenSlice rfl rfl Tryd.underlying23) ?_
  refine SQ.op rfl rfl rfl (r_assign rfl rfl) ?_
  refine SQ.nil ?_
  refine C.code ?_
  refine W.seq ?_
  refine W.seq ?_
  refine W.region ?_
  refine SQ.op rfl rfl rfl (r_assign rfl rfl) ?_
  refine SQ.nil ?_
  refine C.code ?_
  refine W.block ?_
  refine W.loop (α := Nat) (fun i => [(0, .slice A t.args.length c), (3, .int .i64 ((t.args.length + szs (t.args.take i) : Nat) : Int)), (4, .int .i64 (i : Int))]) (fun i w1 => Tr w1 (fun b => b < N) t A c ∧ Ext w w1 ∧ i ≤ t.args.length) (fun i => t.args.length - i) 0 ⟨rfl, by simp [szs]; rfl, rfl, trivial⟩ ⟨hT, hEw, by omega⟩ ?_
  rintro i wl ⟨hT, hEw, hile⟩
  have hd := sz_def t
  have htk := szs_take t.args i
  by_cases hi : i < t.args.length
  · obtain ⟨ba, oa, x, rfl, hx, hC, hTx, hSb⟩ := hT.child hi
    have hst := szs_step _ _ _ hx
    have htk1 := szs_take t.args (i + 1)
    refine W.seq ?_
    refine W.seq ?_
    refine W.region ?_
    refine SQ.op rfl rfl rfl (r_move rfl rfl) ?_
    refine SQ.op rfl rfl rfl (r_move rfl rfl) ?_
    refine SQ.op rfl rfl rfl (r_lenSlice rfl rfl Tryd.underlying23) ?_
    refine SQ.opD true rfl rfl rfl (r_lss rfl rfl rfl) (by simp; omega) ?_
    refine SQ.opD true rfl rfl rfl (r_move rfl rfl) rfl ?_
    refine SQ.guarded rfl rfl rfl rfl rfl ?_
    refine SQ.op rfl rfl rfl (r_move rfl rfl) ?_
    refine SQ.guarded rfl rfl rfl rfl rfl ?_
    refine SQ.opD true rfl rfl rfl (r_leq rfl rfl rfl) (by simp; omega) ?_
    refine SQ.op rfl rfl rfl (r_pick_t rfl rfl rfl) ?_
    refine SQ.nil ?_
    refine C.code ?_
    refine W.cond_t rfl ?_
    refine W.skip ?_
    refine C.code ?_
    refine W.seq ?_
    refine W.block ?_
    refine W.region ?_
    refine SQ.op rfl rfl rfl (r_move rfl rfl) ?_
    refine SQ.op rfl rfl rfl (r_move rfl rfl) ?_
    refine SQ.op rfl rfl rfl (r_move rfl rfl) ?_
    refine SQ.op rfl rfl rfl (r_indexAddr rfl rfl rfl Tryd.underlying23 Tryd.sizeOf25 rfl (by omega)) ?_
    refine SQ.op rfl rfl rfl (r_loadAgg rfl rfl Tryd.isAgg25 Tryd.sizeOf25 rfl (by first | exact hC | assumption)) ?_
    have hsz1 := hEw.size
    refine SQ.call rfl rfl rfl (rc_func rfl rfl Tryd.call8) (ih x.t i hx x.A x.c N _ hTx (by have := hEw.size; omega) (by omega)) ?_
    rintro _ wv2 ⟨rfl, hE3⟩
    refine ⟨_, rfl, ?_⟩
    replace hT := hT.ext hE3
    replace hC := hC.ext hE3
    replace hTx := hTx.ext hE3
    replace hEw := hEw.ext hE3
    refine SQ.op rfl rfl rfl (r_add rfl rfl rfl (w64 (by omega))) ?_
    refine SQ.op rfl rfl rfl (r_assign rfl rfl) ?_
    refine SQ.nil ?_
    refine C.code ?_
    refine W.region ?_
    refine SQ.op rfl rfl rfl (r_move rfl rfl) ?_
    refine SQ.op rfl rfl rfl (r_add rfl rfl rfl (w64 (by omega))) ?_
    refine SQ.op rfl rfl rfl (r_assign rfl rfl) ?_
    refine SQ.nil ?_
    refine C.round (i + 1) ⟨rfl, by rw [hst, ← Nat.add_assoc]; rfl, rfl, trivial⟩ ⟨hT, hEw, by omega⟩ (by omega)
  · obtain rfl : i = t.args.length := by omega
    rw [List.take_length] at htk
    refine W.seq ?_
    refine W.seq ?_
    refine W.region ?_
    refine SQ.op rfl rfl rfl (r_move rfl rfl) ?_
    refine SQ.op rfl rfl rfl (r_move rfl rfl) ?_
    refine SQ.op rfl rfl rfl (r_lenSlice rfl rfl Tryd.underlying23) ?_
    refine SQ.opD false rfl rfl rfl (r_lss rfl rfl rfl) (by simp) ?_
    refine SQ.opD false rfl rfl rfl (r_move rfl rfl) rfl ?_
    refine SQ.skip rfl rfl rfl rfl rfl rfl rfl ?_
    refine SQ.skip rfl rfl rfl rfl rfl rfl rfl ?_
    refine SQ.op rfl rfl rfl (r_pick_f rfl rfl rfl) ?_
    refine SQ.nil ?_
    refine C.code ?_
    refine W.cond_f rfl ?_
    refine W.exit rfl ?_
    refine C.code ?_
    refine W.seq ?_
    refine W.region ?_
    refine SQ.op rfl rfl rfl (r_move rfl rfl) ?_
    refine SQ.op rfl rfl rfl (r_assign rfl rfl) ?_
    refine SQ.nil ?_
    refine C.code ?_
    refine W.ret ?_
    refine C.ret1 Tryd.results20 rfl ?_
    refine ⟨ret_int ?_, hEw⟩
    simp

/-- belfry.belfrylaw01.ExprSize -/
theorem size_step (t : Ex) (ih : SizesAt t) (A : Option Addr) (c N : Nat) (w : World) (hT : Tr w (fun b => b < N) t A c) (hN : N ≤ w.heap.size) (hsz : t.sz ≤ 1048576) :
    Calls Tryd.prog 8 #[.agg (t.cs A c).toArray] w fun e w' => e = .returned (.int .i64 (t.sz : Int)) ∧ Ext w w' := by
  have hd := sz_def t
  refine calls_of Tryd.func8 rfl Tryd.ntmps8 rfl ?_
  have hEw := Kp.refl (fun _ => False) w
  refine W.seq ?_
  refine W.region ?_
  have hsz5 := hEw.size
  refine SQ.new (v := (fun nb => .pointer (some ⟨nb, 0, none⟩))) rfl rfl rfl (r_box rfl rfl) ?_
  intro nb1 wv1 hge2 hlt3 hB1 hE4
  replace hT := hT.ext hE4
  replace hEw := hEw.ext hE4
  replace hB1 : Blk wv1 nb1 _ _ := hB1
  refine SQ.op rfl rfl rfl (r_assign rfl rfl) ?_
  refine SQ.nil ?_
  refine C.code ?_
  refine W.seq ?_
  refine W.region ?_
  refine SQ.op rfl rfl rfl (r_fieldAddr rfl rfl Tryd.underlying25 rfl Tryd.sizeOf9 rfl) ?_
  refine SQ.op rfl rfl rfl (r_load rfl rfl Tryd.isAgg9 (by first | exact hB1.cell rfl | assumption)) ?_
  refine SQ.op rfl rfl rfl (r_lenStr rfl rfl Tryd.underlying9) ?_
  refine SQ.op rfl rfl rfl (r_add rfl rfl rfl (w64 (by omega))) ?_
  refine SQ.op rfl rfl rfl (r_assign rfl rfl) ?_
  refine SQ.nil ?_
  refine C.code ?_
  refine W.seq ?_
  refine W.seq ?_
  refine W.region ?_
  refine SQ.op rfl rfl rfl (r_move rfl rfl) ?_
  refine SQ.op rfl rfl rfl (r_leq rfl rfl rfl) ?_
  refine SQ.nil ?_
  refine C.code ?_
  refine W.cond rfl ?_ ?_
  · intro hc6
    try simp only [decide_eq_true_eq, decide_eq_false_iff_not, Bool.not_eq_true', Bool.not_eq_false', Bool.not_true, Bool.not_false, Bool.not_eq_true, Bool.not_eq_false] at hc6
    refine W.region ?_
    refine SQ.op rfl rfl rfl (r_move rfl rfl) ?_
    refine SQ.op rfl rfl rfl (r_fieldAddr rfl rfl Tryd.underlying25 rfl Tryd.sizeOf23 rfl) ?_
    refine SQ.op rfl rfl rfl (r_load rfl rfl Tryd.isAgg23 (by first | exact hB1.cell rfl | assumption)) ?_
    have hsz7 := hEw.size
    refine SQ.call rfl rfl rfl (rc_func rfl rfl Tryd.call20) (ih A c N _ hT (by have := hEw.size; omega) hsz) ?_
    rintro _ wv8 ⟨rfl, hE9⟩
    refine ⟨_, rfl, ?_⟩
    replace hT := hT.ext hE9
    replace hB1 := hB1.ext hE9
    replace hEw := hEw.ext hE9
    refine SQ.op rfl rfl rfl (r_add rfl rfl rfl (w64 (by omega))) ?_
    refine SQ.op rfl rfl rfl (r_assign rfl rfl) ?_
    refine SQ.nil ?_
    refine C.code ?_
    refine W.seq ?_
    refine W.region ?_
    refine SQ.op rfl rfl rfl (r_move rfl rfl) ?_
    refine SQ.op rfl rfl rfl (r_assign rfl rfl) ?_
    refine SQ.nil ?_
    refine C.code ?_
    refine W.ret ?_
    refine C.ret1 Tryd.results8 rfl ?_
    refine ⟨ret_int ?_, hEw⟩
    omega
  · intro hc6
    try simp only [decide_eq_true_eq, decide_eq_false_iff_not, Bool.not_eq_true', Bool.not_eq_false', Bool.not_true, Bool.not_false, Bool.not_eq_true, Bool.not_eq_false] at hc6
    refine W.skip ?_
    refine C.code ?_
    refine W.seq ?_
    refine W.region ?_
    refine SQ.op rfl rfl rfl (r_move rfl rfl) ?_
    refine SQ.op rfl rfl rfl (r_assign rfl rfl) ?_
    refine SQ.nil ?_
    refine C.code ?_
    refine W.ret ?_
    refine C.ret1 Tryd.results8 rfl ?_
    refine ⟨ret_int ?_, hEw⟩
    omega

theorem Size_all : ∀ n t, SizeOf.sizeOf t ≤ n → SizeAt t
  | 0, t, h => by cases t; simp at h
  | n + 1, t, h => fun A c N w hT hN hs => size_step t (fun A c N w hT hN hs => sizes_step t (fun x i hx => Size_all n x (by have := Ex.child_lt hx; omega)) A c N w hT hN hs) A c N w hT hN hs
theorem Size_spec (t : Ex) : SizeAt t := Size_all _ t (Nat.le_refl _)


end Go.Proofs.YtclokcmgigdjlaaDoor
