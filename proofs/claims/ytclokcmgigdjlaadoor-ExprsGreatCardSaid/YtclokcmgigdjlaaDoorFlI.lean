/- Results in cells; trees of values. No project text. -/
import Derived.Test.YtclokcmgigdjlaaDoorFlH
set_option linter.unusedSimpArgs false
set_option linter.unusedVariables false
namespace Go.FL
open Go.RowKit
section
variable {P : Program} {l : Env} {w : World}
/-- The cells of a variable, read as one value. -/
def Lds (P : Program) (w : World) (t : TypeId) (b : Nat) (v : Value) : Prop := (loadVar t ⟨b, 0, none⟩).run P w = .ok v w
theorem ld_one {t t' : TypeId} {b : Nat} {v : Value} {cs : List Value} (hA : ∀ w, (isAgg t).run P w = .ok false w) (hB : Blk w b cs t') (hv : nth cs 0 = some v) : Lds P w t b v := by
  simp [Lds, loadVar, hA, hB.cell hv]
theorem ld_agg {t t' : TypeId} {b n : Nat} {cs : List Value} (hA : ∀ w, (isAgg t).run P w = .ok true w) (hz : ∀ w, (sizeOf t).run P w = .ok n w) (hB : Blk w b cs t') (hn : cs.length = n) : Lds P w t b (.agg cs.toArray) := by
  subst hn
  have h := run_loadCells_list (P := P) w ⟨b, 0, none⟩ cs (fun j v hv => by rw [addr_add]; exact hB.cells j v hv)
  simp [Lds, loadVar, hA, hz, h]
/-- What the results read as. -/
def Rs (P : Program) (l : Env) (w : World) : List ResultVar → List Value → Prop
  | [], [] => True
  | .tmp t :: r, v :: vs => lk l t = some v ∧ Rs P l w r vs
  | .cell t ty :: r, v :: vs => (∃ b, lk l t = some (.pointer (some ⟨b, 0, none⟩)) ∧ Lds P w ty b v) ∧ Rs P l w r vs
  | _, _ => False
def tupleOf : List Value → Value
  | [v] => v
  | vs => .tuple vs.toArray
theorem Rs.run {n : Nat} {ds : List Deferred} {a : Act} (hF : Fr n ds l a) : ∀ (rs : List ResultVar) (vs : List Value), Rs P l w rs vs →
    (rs.mapM (fun r => match r with | .tmp t => pure (a.tmps.getD t undef) | .cell b t => do loadVar t (← asAddr (a.tmps.getD b undef)) : ResultVar → Sem Value)).run P w = .ok vs w
  | [], [], _ => by simp
  | .tmp t :: r, v :: vs, h => by
    have h1 := hF.get t v h.1
    simp only [List.mapM_cons, Sem.run_bind, Sem.run_pure, Result.andThen_ok, Rs.run hF r vs h.2]
    simp [Array.getD_eq_getD_getElem?, h1]
  | .cell t ty :: r, v :: vs, h => by
    obtain ⟨b, h1, h2⟩ := h.1
    have h1' := hF.get t _ h1
    have h3 : a.tmps.getD t undef = .pointer (some ⟨b, 0, none⟩) := by simp [Array.getD_eq_getD_getElem?, h1']
    have h2' : (loadVar ty ⟨b, 0, none⟩).run P w = .ok v w := h2
    have h4 : (asAddr (a.tmps.getD t undef)).run P w = .ok ⟨b, 0, none⟩ w := by rw [h3]; simp [asAddr]
    simp only [List.mapM_cons, Sem.run_bind, Sem.run_pure, Result.andThen_ok, h4, h2', Rs.run hF r vs h.2]
theorem C.retL {fn : Func} {R : Ending → World → Prop} {n : Nat} {rs : List ResultVar} {vs : List Value} (hr : fn.results = rs.toArray) (hv : Rs P l w rs vs) (h : R (.returned (tupleOf vs)) w) :
    C n [] (FRet P fn R) l w := fun a hF => ⟨hF.defs, _, by
      have := Rs.run (P := P) (w := w) hF rs vs hv
      have e : (rs.toArray.mapM (fun r => match r with | .tmp t => pure (a.tmps.getD t undef) | .cell b t => do loadVar t (← asAddr (a.tmps.getD b undef)) : ResultVar → Sem Value)).run P w = .ok vs.toArray w := by
        rw [List.mapM_toArray]
        simp only [Sem.run_map, this]; rfl
      show (Sem.run P (results fn a.tmps) w) = _
      unfold results
      rw [hr]
      simp only [Sem.run_bind]
      refine Eq.trans (congrArg (fun r => Result.andThen r _) e) ?_
      simp only [Result.andThen_ok, Sem.run_pure]
      match vs with
      | [] => rfl
      | [v] => rfl
      | v :: u :: r => simp [tupleOf], h⟩
end
theorem SQ.panicI {n : Nat} {ds : List Deferred} {ops : Array Oper} {rest : List Oper} {o : Oper} {nrm : Kont} {exs gts : List (Nat × Kont)} {rt : Kont} {pn : List PanicEntry → Kont} {ot : Kont} {t : TypeId} {v : Value} {x : Operand} {P : Program} {l : Env} {w : World} (ho : o.op = .panic x) (hg : o.guard = none) (hx : ev l x = some (.iface t v))
    (h : C n ds (pn [{ v := .iface t v, recovered := false }]) l w) : SQ P ops n ds ⟨nrm, exs, gts, rt, pn, ot⟩ (o :: rest) l w :=
  SQ.panic hg (fun ρ hρ => by simp [execOp, ho, hρ x _ hx, Instr.panic]) h
theorem C.pan {n : Nat} {l : Env} {w : World} {R : Ending → World → Prop} {ch : List PanicEntry} (h : R (.panicked ch) w) : C n [] (FPan R ch) l w := fun a hF => ⟨hF.defs, h⟩
theorem callsP_mono {P : Program} {f : FuncId} {args : Array Value} {w : World} {R R' : Ending → World → Prop} (h : Calls P f args w R) (hm : ∀ e w', R e w' → R' e w') : Calls P f args w R' := h.mono hm
theorem w64e {x c : Int} (h : x = c) (hc : -9223372036854775808 ≤ c ∧ c ≤ 9223372036854775807) : IntKind.i64.wrap x = c := by subst h; exact w64 hc
section
variable {P : Program} {n : Nat} {ds : List Deferred} {k : Ks} {l : Env} {w : World} {ops : Array Oper} {S : World → Prop} {fuel : Nat} {listed : Array Bool}
/-- Number i or number j may come up. -/
theorem AH.two (i j : Nat) {oi oj : Oper} (hr : Region.ready .any ops listed = [i, j]) (hi : opAt ops i = some oi) (hgi : oi.guard = none) (hj : opAt ops j = some oj) (hgj : oj.guard = none)
    (h1 : OW P oi n ds k l w (fun a' w' => S w' ∧ wpAnyH P .any ops k.Q S fuel (listed.setIfInBounds i true) a' w'))
    (h2 : OW P oj n ds k l w (fun a' w' => S w' ∧ wpAnyH P .any ops k.Q S fuel (listed.setIfInBounds j true) a' w')) : AH P ops n ds S k (fuel + 1) listed l w := fun a hF =>
  wpAnyH_all hr (by simp) (by
    intro m hm
    simp only [List.mem_cons, List.not_mem_nil, or_false] at hm
    rcases hm with rfl | rfl
    · unfold wpOp
      rw [opAt_eq hi]
      simp only [wanted_none hgi, if_true]
      exact .inl (h1 a hF)
    · unfold wpOp
      rw [opAt_eq hj]
      simp only [wanted_none hgj, if_true]
      exact .inl (h2 a hF))
theorem OW.storeA {K : Kont} {o : Oper} {b : Nat} {vs cs : List Value} {t t' : TypeId} {m : Nat} {x y : Operand}
    (ho : o.op = .store t x y) (hd : o.dst = none) (hx : ev l x = some (.pointer (some ⟨b, 0, none⟩))) (hy : ev l y = some (.agg vs.toArray)) (hs : ∀ w, (sizeOf t).run P w = .ok m w) (h1 : vs.all (·.oneCell') = true)
    (hb : Blk w b cs t') (hc : cs.length = vs.length ∧ vs.length = m)
    (h : ∀ w', w'.heap[b]? = some (.cells vs.toArray t' (0, 0)) → Kp (fun c => c = b) w w' → C n ds K l w') : OW P o n ds k l w K :=
  OW.op0 (w' := w.setRow b vs.toArray) hd (PW.storeRun ho hx hy hs (by simpa using hc.2) (by simpa [List.all_eq_true] using h1) hb (by simpa using hc.1.trans hc.2)) (h _ (setRow_blk hb) (setRow_kp w b _))
end
/-! ### Rows of structs -/
theorem flat_get {α : Type} (g : α → List Value) (z : Nat) (hz : ∀ x, (g x).length = z) : ∀ (l : List α) (i j : Nat) (x : α), l[i]? = some x → j < z → (l.flatMap g)[i * z + j]? = (g x)[j]?
  | [], _, _, _, h, _ => by simp at h
  | y :: r, 0, j, x, h, hj => by
    simp at h; subst h
    rw [List.flatMap_cons, List.getElem?_append_left (by rw [hz]; omega)]; simp
  | y :: r, i + 1, j, x, h, hj => by
    rw [List.flatMap_cons, List.getElem?_append_right (by rw [hz, Nat.succ_mul]; omega), hz, show (i + 1) * z + j - z = i * z + j by rw [Nat.succ_mul]; omega]
    exact flat_get g z hz r i j x (by simpa using h) hj
theorem Blk.sub {w : World} {b : Nat} {t : TypeId} {α : Type} {g : α → List Value} {z : Nat} {l : List α} (h : Blk w b (l.flatMap g) t) (hz : ∀ x, (g x).length = z) {i : Nat} {x : α} (hx : l[i]? = some x) : Cl w b (0 + i * z) (g x) := fun j v hv => by
  have hj : j < z := by rw [← hz x]; exact (List.getElem?_eq_some_iff.1 hv).1
  rw [Nat.zero_add]
  exact blk_cell h (by rw [List.getElem?_toArray, flat_get g z hz l i j x hx hj]; exact hv)
theorem Cl.sub {w : World} {b o : Nat} {α : Type} {g : α → List Value} {z : Nat} {l : List α} (h : Cl w b o (l.flatMap g)) (hz : ∀ x, (g x).length = z) {i : Nat} {x : α} (hx : l[i]? = some x) : Cl w b (o + i * z) (g x) := fun j v hv => by
  have hj : j < z := by rw [← hz x]; exact (List.getElem?_eq_some_iff.1 hv).1
  rw [Nat.add_assoc]
  exact h (i * z + j) v (by rw [flat_get g z hz l i j x hx hj]; exact hv)
end Go.FL
