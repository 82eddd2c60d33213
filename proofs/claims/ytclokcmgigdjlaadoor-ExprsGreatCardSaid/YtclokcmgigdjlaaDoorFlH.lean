/- Regions that draw their order. No project text. -/
import Derived.Test.YtclokcmgigdjlaaDoorFlG
import Derived.Sort.Grow
set_option linter.unusedSimpArgs false
set_option linter.unusedVariables false
namespace Go.FL
open Go.RowKit
section
variable {P : Program} {n : Nat} {ds : List Deferred} {k : Ks} {l : Env} {w : World} {ops : Array Oper} {rest : List Oper} {o : Oper}
/-! ### Operations that only read, and calls that leave all old blocks: one walk, in the text's order -/
def QZ (P : Program) (ops : Array Oper) (n : Nat) (ds : List Deferred) (w : World) (k : Ks) (rest : List Oper) (l : Env) : Prop :=
  ∀ a, Fr n ds l a → wpQuiet P ops (fun w' => Ext w w') (fun a' => ∀ w', Ext w w' → k.nrm a' w') rest a
theorem W.quiet {id : Nat} {os : List Oper} (hm : P.follows .mixedOrders = true) (hB : Region.lexB .any os.toArray = true) (h : QZ P os.toArray n ds w k os l) : W P n ds (.region id os.toArray true) k l w :=
  fun a hF => wp_region_quiet (C := fun w' => Ext w w') hm hB (Ext.drew w) (show wpQuiet P os.toArray (fun w' => Ext w w') (fun a' => ∀ w', Ext w w' → k.nrm a' w') os a from h a hF)
theorem QZ.nil {nrm : Kont} {exs gts : List (Nat × Kont)} {rt : Kont} {pn : List PanicEntry → Kont} {ot : Kont} (h : ∀ w', Ext w w' → C n ds nrm l w') : QZ P ops n ds w ⟨nrm, exs, gts, rt, pn, ot⟩ [] l := fun a hF => wpQuiet_nil (fun w' hw => h w' hw a hF)
theorem QZ.op {d : Nat} {v : Value} (hg : o.guard = none) (hd : o.dst = some d) (hn : Nat.blt d n = true) (hr : ∀ w', Ext w w' → Run P o l w' v w') (h : QZ P ops n ds w k rest ((d, v) :: l)) :
    QZ P ops n ds w k (o :: rest) l := fun a hF => wpQuiet_step fun K hK => by
      rw [wanted_none hg, if_pos rfl]
      refine ⟨v, fun w' hw => ?_, ?_⟩
      · unfold Oper.quietAt
        rw [hr w' hw _ hF.agree]
        exact ⟨rfl, rfl⟩
      · rw [hd]; exact hK _ (h _ (hF.put hn v))
theorem QZ.call {d : Nat} {f : FuncId} {args : Array Value} {v : Value} (hg : o.guard = none) (hd : o.dst = some d) (hn : Nat.blt d n = true) (hr : ∀ w', Ext w w' → RunC P o l w' f args)
    (hc : ∀ w', Ext w w' → Calls P f args w' fun e w'' => e = .returned v ∧ Ext w w'') (h : QZ P ops n ds w k rest ((d, v) :: l)) :
    QZ P ops n ds w k (o :: rest) l := fun a hF => wpQuiet_step fun K hK => by
      rw [wanted_none hg, if_pos rfl]
      refine ⟨v, fun w' hw => ?_, ?_⟩
      · unfold Oper.quietAt
        rw [hr w' hw _ hF.agree]
        exact ⟨rfl, hc w' hw⟩
      · rw [hd]; exact hK _ (h _ (hF.put hn v))
theorem QZ.skip {d i dj : Nat} {b want : Bool} {oi : Oper} (hg : o.guard = some (i, want)) (hi : ops[i]? = some oi) (hj : oi.dst = some dj) (hv : lk l dj = some (.bool b)) (hb : (b == want) = false)
    (hd : o.dst = some d) (hn : Nat.blt d n = true) (h : QZ P ops n ds w k rest ((d, undef) :: l)) : QZ P ops n ds w k (o :: rest) l := fun a hF => wpQuiet_step fun K hK => by
      rw [SQ.wantedOf hF hg hi hj hv, hb, if_neg (by simp), hd]
      exact hK _ (h _ (hF.put hn undef))
theorem QZ.guarded {i dj : Nat} {b want : Bool} {oi : Oper} (hg : o.guard = some (i, want)) (hi : ops[i]? = some oi) (hj : oi.dst = some dj) (hv : lk l dj = some (.bool b)) (hb : (b == want) = true)
    (h : QZ P ops n ds w k ({ o with guard := none } :: rest) l) : QZ P ops n ds w k (o :: rest) l := fun a hF => wpQuiet_step fun K hK => by
      rw [SQ.wantedOf hF hg hi hj hv, hb, if_pos rfl]
      have := h a hF
      unfold wpQuiet at this
      rw [wanted_none (o := { o with guard := none }) rfl, if_pos rfl] at this
      exact Oper.quiet_mono hK this
/-- A yes or no, both ways. -/
theorem both {G : Value → Prop} {b : Bool} (ht : b = true → G (.bool true)) (hf : b = false → G (.bool false)) : G (.bool b) := by cases b <;> simp_all
theorem QZ.opB {d : Nat} {b : Bool} (hg : o.guard = none) (hd : o.dst = some d) (hn : Nat.blt d n = true) (hr : ∀ w', Ext w w' → Run P o l w' (.bool b) w')
    (ht : b = true → QZ P ops n ds w k rest ((d, .bool true) :: l)) (hf : b = false → QZ P ops n ds w k rest ((d, .bool false) :: l)) : QZ P ops n ds w k (o :: rest) l :=
  QZ.op hg hd hn hr (both (G := fun v => QZ P ops n ds w k rest ((d, v) :: l)) ht hf)
theorem SQ.opB {d : Nat} {b : Bool} {w' : World} (hg : o.guard = none) (hd : o.dst = some d) (hn : Nat.blt d n = true) (hr : Run P o l w (.bool b) w')
    (ht : b = true → SQ P ops n ds k rest ((d, .bool true) :: l) w') (hf : b = false → SQ P ops n ds k rest ((d, .bool false) :: l) w') : SQ P ops n ds k (o :: rest) l w :=
  SQ.op hg hd hn hr (both (G := fun v => SQ P ops n ds k rest ((d, v) :: l) w') ht hf)
theorem QZ.callB {d : Nat} {f : FuncId} {args : Array Value} {b : Bool} (hg : o.guard = none) (hd : o.dst = some d) (hn : Nat.blt d n = true) (hr : ∀ w', Ext w w' → RunC P o l w' f args)
    (hc : ∀ w', Ext w w' → Calls P f args w' fun e w'' => e = .returned (.bool b) ∧ Ext w w'') (ht : b = true → QZ P ops n ds w k rest ((d, .bool true) :: l)) (hf : b = false → QZ P ops n ds w k rest ((d, .bool false) :: l)) :
    QZ P ops n ds w k (o :: rest) l := QZ.call hg hd hn hr hc (both (G := fun v => QZ P ops n ds w k rest ((d, v) :: l)) ht hf)

/-! ### Operations that write, too: those that only read are taken first; of the others whichever comes up -/
def PanOk (p : List PanicEntry → Kont) : Prop := ∀ c a d v w, p c (Act.put a d v) w → p c a w
/-- What is owed to a panic does not hang on slot d. -/
def PanOk1 (p : List PanicEntry → Kont) (d : Nat) : Prop := ∀ c a v w, p c (Act.put a (some d) v) w → p c a w
theorem PanOk.fn {R : Ending → World → Prop} {d : Nat} : PanOk1 (FPan R) d := fun _ _ _ _ h => h
/-- An operation by its number, by sight. -/
def nthO : List Oper → Nat → Option Oper
  | [], _ => none
  | x :: _, 0 => some x
  | _ :: r, n + 1 => nthO r n
def opAt (ops : Array Oper) (i : Nat) : Option Oper := nthO ops.toList i
theorem opAt_eq {ops : Array Oper} {i : Nat} {o : Oper} (h : opAt ops i = some o) : ops[i]? = some o := by
  have key : ∀ (l : List Oper) (i : Nat), nthO l i = l[i]? := by
    intro l
    induction l with
    | nil => intro i; simp [nthO]
    | cons x r ih => intro i; cases i with
      | zero => simp [nthO]
      | succ n => simp [nthO, ih n]
  unfold opAt at h
  rw [key] at h
  simpa using h
def AH (P : Program) (ops : Array Oper) (n : Nat) (ds : List Deferred) (S : World → Prop) (k : Ks) (fuel : Nat) (listed : Array Bool) (l : Env) (w : World) : Prop :=
  ∀ a, Fr n ds l a → wpAnyH P .any ops k.Q S fuel listed a w
theorem W.held {id : Nat} {os : List Oper} (S : World → Prop) (hm : P.follows .mixedOrders = true) (h : ∀ w', Ext w w' → w'.heap = w.heap → AH P os.toArray n ds S k os.length (Array.replicate os.length false) l w') :
    W P n ds (.region id os.toArray true) k l w :=
  fun a hF => wp_region_held (S := S) hm (by simpa using h { w with drawn := w.drawn + 1 } (Ext.drew w) rfl a hF)
section
variable {S : World → Prop} {fuel i : Nat} {listed : Array Bool}
theorem AH.done {nrm : Kont} {exs gts : List (Nat × Kont)} {rt : Kont} {pn : List PanicEntry → Kont} {ot : Kont} (hr : Region.ready .any ops listed = []) (h : C n ds nrm l w) : AH P ops n ds S ⟨nrm, exs, gts, rt, pn, ot⟩ fuel listed l w := fun a hF => wpAnyH_done hr (h a hF) fuel
/-- Number i is taken first. -/
theorem AH.take {nrm : Kont} {exs gts : List (Nat × Kont)} {rt : Kont} {pn : List PanicEntry → Kont} {ot : Kont} {d : Nat} {v : Value} (i : Nat) (hi : opAt ops i = some o) (hs : Region.noSelect ops = true) (hf : Region.free .any ops listed i = true) (hr : (Region.ready .any ops listed).contains i = true) (hp : PanOk1 pn d)
    (hg : o.guard = none) (hd : o.dst = some d) (hn : Nat.blt d n = true) (hS : S w) (hR : ∀ w', S w' → Run P o l w' v w') (h : AH P ops n ds S ⟨nrm, exs, gts, rt, pn, ot⟩ fuel (listed.setIfInBounds i true) ((d, v) :: l) w) :
    AH P ops n ds S ⟨nrm, exs, gts, rt, pn, ot⟩ (fuel + 1) listed l w := fun a hF =>
  wpAnyH_take (opAt_eq hi) hs hf hr (fun c a w hq => hp c a _ w (by rw [← hd]; exact hq)) (.inl ⟨wanted_none hg _, fun w' hw => hR w' hw _ hF.agree⟩) hS (by rw [hd]; exact h _ (hF.put hn v))
theorem AH.takeG {nrm : Kont} {exs gts : List (Nat × Kont)} {rt : Kont} {pn : List PanicEntry → Kont} {ot : Kont} {d j dj : Nat} {b want : Bool} {oj : Oper} {v : Value} (i : Nat) (hi : opAt ops i = some o) (hs : Region.noSelect ops = true) (hf : Region.free .any ops listed i = true) (hr : (Region.ready .any ops listed).contains i = true) (hp : PanOk1 pn d)
    (hg : o.guard = some (j, want)) (hj : ops[j]? = some oj) (hdj : oj.dst = some dj) (hv : lk l dj = some (.bool b)) (hb : (b == want) = true)
    (hd : o.dst = some d) (hn : Nat.blt d n = true) (hS : S w) (hR : ∀ w', S w' → Run P o l w' v w') (h : AH P ops n ds S ⟨nrm, exs, gts, rt, pn, ot⟩ fuel (listed.setIfInBounds i true) ((d, v) :: l) w) :
    AH P ops n ds S ⟨nrm, exs, gts, rt, pn, ot⟩ (fuel + 1) listed l w := fun a hF =>
  wpAnyH_take (opAt_eq hi) hs hf hr (fun c a w hq => hp c a _ w (by rw [← hd]; exact hq)) (.inl ⟨by rw [SQ.wantedOf hF hg hj hdj hv]; exact hb, fun w' hw => hR w' hw _ hF.agree⟩) hS (by rw [hd]; exact h _ (hF.put hn v))
theorem AH.skip {nrm : Kont} {exs gts : List (Nat × Kont)} {rt : Kont} {pn : List PanicEntry → Kont} {ot : Kont} {d j dj : Nat} {b want : Bool} {oj : Oper} (i : Nat) (hi : opAt ops i = some o) (hs : Region.noSelect ops = true) (hf : Region.free .any ops listed i = true) (hr : (Region.ready .any ops listed).contains i = true) (hp : PanOk1 pn d)
    (hg : o.guard = some (j, want)) (hj : ops[j]? = some oj) (hdj : oj.dst = some dj) (hv : lk l dj = some (.bool b)) (hb : (b == want) = false)
    (hd : o.dst = some d) (hn : Nat.blt d n = true) (hS : S w) (h : AH P ops n ds S ⟨nrm, exs, gts, rt, pn, ot⟩ fuel (listed.setIfInBounds i true) ((d, undef) :: l) w) :
    AH P ops n ds S ⟨nrm, exs, gts, rt, pn, ot⟩ (fuel + 1) listed l w := fun a hF =>
  wpAnyH_take (opAt_eq hi) hs hf hr (fun c a w hq => hp c a _ w (by rw [← hd]; exact hq)) (.inr ⟨by rw [SQ.wantedOf hF hg hj hdj hv]; exact hb, rfl⟩) hS (by rw [hd]; exact h _ (hF.put hn undef))
theorem AH.skip_ {nrm : Kont} {exs gts : List (Nat × Kont)} {rt : Kont} {pn : List PanicEntry → Kont} {ot : Kont} {j dj : Nat} {b want : Bool} {oj : Oper} (i : Nat) (hi : opAt ops i = some o) (hs : Region.noSelect ops = true) (hf : Region.free .any ops listed i = true) (hr : (Region.ready .any ops listed).contains i = true) (hp : PanOk1 pn 0)
    (hg : o.guard = some (j, want)) (hj : ops[j]? = some oj) (hdj : oj.dst = some dj) (hv : lk l dj = some (.bool b)) (hb : (b == want) = false)
    (hd : o.dst = none) (hS : S w) (h : AH P ops n ds S ⟨nrm, exs, gts, rt, pn, ot⟩ fuel (listed.setIfInBounds i true) l w) :
    AH P ops n ds S ⟨nrm, exs, gts, rt, pn, ot⟩ (fuel + 1) listed l w := fun a hF =>
  wpAnyH_take (v := undef) (opAt_eq hi) hs hf hr (fun c a w hq => by rw [hd] at hq; exact hq) (.inr ⟨by rw [SQ.wantedOf hF hg hj hdj hv]; exact hb, rfl⟩) hS (by rw [hd]; exact h _ hF)
/-- One operation's wp, out of what it does. -/
def OW (P : Program) (o : Oper) (n : Nat) (ds : List Deferred) (k : Ks) (l : Env) (w : World) (K : Kont) : Prop := ∀ a, Fr n ds l a → o.wp P a w K k.Q
/-- Number i alone may come up: as in the text's order, S shown behind it. -/
theorem AH.one (i : Nat) (hi : opAt ops i = some o) (hr : Region.ready .any ops listed = [i]) (hg : o.guard = none)
    (h : OW P o n ds k l w (fun a' w' => S w' ∧ wpAnyH P .any ops k.Q S fuel (listed.setIfInBounds i true) a' w')) : AH P ops n ds S k (fuel + 1) listed l w := fun a hF =>
  wpAnyH_all hr (by simp) (by
    intro j hj
    simp only [List.mem_singleton] at hj
    subst hj
    unfold wpOp
    rw [opAt_eq hi]
    simp only [wanted_none hg, if_true]
    exact .inl (h a hF))
theorem AH.oneG {j dj : Nat} {b want : Bool} {oj : Oper} (i : Nat) (hi : opAt ops i = some o) (hr : Region.ready .any ops listed = [i]) (hg : o.guard = some (j, want)) (hj : ops[j]? = some oj) (hdj : oj.dst = some dj) (hv : lk l dj = some (.bool b)) (hb : (b == want) = true)
    (h : OW P o n ds k l w (fun a' w' => S w' ∧ wpAnyH P .any ops k.Q S fuel (listed.setIfInBounds i true) a' w')) : AH P ops n ds S k (fuel + 1) listed l w := fun a hF =>
  wpAnyH_all hr (by simp) (by
    intro j' hj'
    simp only [List.mem_singleton] at hj'
    subst hj'
    unfold wpOp
    rw [opAt_eq hi]
    simp only [SQ.wantedOf hF hg hj hdj hv, hb, if_true]
    exact .inl (h a hF))
theorem OW.op {K : Kont} {d : Nat} {v : Value} {w' : World} (hd : o.dst = some d) (hn : Nat.blt d n = true) (hr : Run P o l w v w') (h : C n ds K ((d, v) :: l) w') : OW P o n ds k l w K := fun a hF => by
  unfold Oper.wp
  rw [hr _ hF.agree, Oper.upon_value, hd]
  exact h _ (hF.put hn v)
theorem OW.op0 {K : Kont} {w' : World} (hd : o.dst = none) (hr : Run0 P o l w w') (h : C n ds K l w') : OW P o n ds k l w K := fun a hF => by
  unfold Oper.wp
  rw [hr _ hF.agree, Oper.upon_skip, hd]
  exact h _ hF
theorem OW.call {nrm : Kont} {exs gts : List (Nat × Kont)} {rt : Kont} {pn : List PanicEntry → Kont} {ot : Kont} {K : Kont} {d : Nat} {f : FuncId} {args : Array Value} {R : Ending → World → Prop} (hd : o.dst = some d) (hn : Nat.blt d n = true) (hr : RunC P o l w f args) (hc : Calls P f args w R)
    (hR : ∀ e w', R e w' → (∃ v, e = .returned v ∧ C n ds K ((d, v) :: l) w') ∨ (∃ c, e = .panicked c ∧ C n ds (pn c) l w')) : OW P o n ds ⟨nrm, exs, gts, rt, pn, ot⟩ l w K := fun a hF => by
  unfold Oper.wp
  rw [hr _ hF.agree, Oper.upon_enter]
  refine hc.mono fun e w' hRe => ?_
  rcases hR e w' hRe with ⟨v, rfl, h⟩ | ⟨c, rfl, h⟩
  · rw [hd]; exact h _ (hF.put hn v)
  · exact h a hF
theorem OW.call_ {nrm : Kont} {exs gts : List (Nat × Kont)} {rt : Kont} {pn : List PanicEntry → Kont} {ot : Kont} {K : Kont} {f : FuncId} {args : Array Value} {R : Ending → World → Prop} (hd : o.dst = none) (hr : RunC P o l w f args) (hc : Calls P f args w R)
    (hR : ∀ e w', R e w' → (∃ v, e = .returned v ∧ C n ds K l w') ∨ (∃ c, e = .panicked c ∧ C n ds (pn c) l w')) : OW P o n ds ⟨nrm, exs, gts, rt, pn, ot⟩ l w K := fun a hF => by
  unfold Oper.wp
  rw [hr _ hF.agree, Oper.upon_enter]
  refine hc.mono fun e w' hRe => ?_
  rcases hR e w' hRe with ⟨v, rfl, h⟩ | ⟨c, rfl, h⟩
  · rw [hd]; exact h _ hF
  · exact h a hF
theorem OW.next (hS : S w) (h : AH P ops n ds S k fuel listed l w) : C n ds (fun a' w' => S w' ∧ wpAnyH P .any ops k.Q S fuel listed a' w') l w := fun a hF => ⟨hS, h a hF⟩
theorem OW.new {K : Kont} {d : Nat} {v : Nat → Value} {obj : Obj} (hd : o.dst = some d) (hn : Nat.blt d n = true) (hr : Run P o l w (v w.heap.size) (w.alloc obj))
    (h : ∀ nb w', w.heap.size ≤ nb → nb < w'.heap.size → w'.heap[nb]? = some obj → Ext w w' → C n ds K ((d, v nb) :: l) w') : OW P o n ds k l w K :=
  OW.op hd hn hr (h _ _ (Nat.le_refl _) (by simp) (alloc_new w obj) (Ext.alloc w obj))
theorem OW.store {K : Kont} {b q : Nat} {v : Value} {cs cs' : List Value} {t t' : TypeId} {x y : Operand}
    (ho : o.op = .store t x y) (hd : o.dst = none) (hx : ev l x = some (.pointer (some ⟨b, q, none⟩))) (hy : ev l y = some v) (hs : ∀ w, (sizeOf t).run P w = .ok 1 w) (h1 : v.oneCell' = true)
    (hb : w.heap[b]? = some (.cells cs.toArray t' (0, 0))) (hu : updK cs q v some = some cs')
    (h : ∀ w', w'.heap[b]? = some (.cells cs'.toArray t' (0, 0)) → Kp (fun c => c = b) w w' → C n ds K l w') : OW P o n ds k l w K := by
  obtain ⟨hlt, he⟩ := updK_eq _ _ _ _ _ hu
  have he' : cs.set q v = cs' := by simpa using he
  refine OW.op0 (w' := w.setCell ⟨b, q, none⟩ v) hd (fun ρ hρ => by
    have hc : w.cell? ⟨b, q, none⟩ = some cs[q] := blk_cell hb (by simp [hlt])
    have hf : w.frozen? ⟨b, q, none⟩ = false := blk_frozen hb
    have hcells : v.cells = #[v] := by cases v <;> first | rfl | (simp [Value.oneCell'] at h1)
    simp [execOp, ho, hρ x _ hx, hρ y _ hy, Instr.storeAt, Instr.sureAddr, storeVar, hs, hcells, storeCells, Addr.add, run_store _ _ _ _ _ h1, hc, hf])
    (h _ (by have := blk_set (i := q) v hb; rw [← he']; simpa using this) (Kp.setCell w ⟨b, q, none⟩ v))
end
/-! ### Which function a call enters -/
theorem rc_func {f : FuncId} {xs : List Operand} {vs : List Value} {ts : Array TypeId} (ho : o.op = .call { callee := .value (.func f), args := xs.toArray, argTypes := ts }) (hx : evK l xs some = some vs)
    (hc : ∀ (args : Array Value) (w : World), (callFunc f args).run P w = .ok (.enter f args) w) : RunC P o l w f vs.toArray := fun ρ hρ => by
  have := evK_map hρ hx
  have hf : ρ (.func f) = .func (.func f) #[] #[] := hρ (.func f) _ rfl
  simp [execOp, ho, resolve, hf, Deferred.ofValue, invoke, this, hc]
theorem rc_value {x : Operand} {f : FuncId} {xs : List Operand} {fs cs vs : List Value} {ts : Array TypeId} (ho : o.op = .call { callee := .value x, args := xs.toArray, argTypes := ts }) (hf : ev l x = some (.func (.func f) fs.toArray cs.toArray)) (hx : evK l xs some = some vs)
    (hc : ∀ (args : Array Value) (w : World), (callFunc f args).run P w = .ok (.enter f args) w) : RunC P o l w f (fs ++ vs ++ cs).toArray := fun ρ hρ => by
  have := evK_map hρ hx
  simp [execOp, ho, resolve, hρ x _ hf, Deferred.ofValue, invoke, this, hc]
/-- A yes or no that is known. -/
theorem SQ.opD {ops : Array Oper} {rest : List Oper} {d : Nat} {b : Bool} {w' : World} (c : Bool) (hg : o.guard = none) (hd : o.dst = some d) (hn : Nat.blt d n = true) (hr : Run P o l w (.bool b) w') (hb : b = c)
    (h : SQ P ops n ds k rest ((d, .bool c) :: l) w') : SQ P ops n ds k (o :: rest) l w := by subst hb; exact SQ.op hg hd hn hr h
theorem QZ.opD {d : Nat} {b : Bool} (c : Bool) (hg : o.guard = none) (hd : o.dst = some d) (hn : Nat.blt d n = true) (hr : ∀ w', Ext w w' → Run P o l w' (.bool b) w') (hb : b = c)
    (h : QZ P ops n ds w k rest ((d, .bool c) :: l)) : QZ P ops n ds w k (o :: rest) l := by subst hb; exact QZ.op hg hd hn hr h
end
/-! ### What is known of memory -/
/-- A block of the call's own, whole. -/
def Blk (w : World) (b : Nat) (cs : List Value) (t : TypeId) : Prop := w.heap[b]? = some (.cells cs.toArray t (0, 0))
section
variable {w w' : World} {b : Nat} {cs : List Value} {t : TypeId} {X : Nat → Prop}
theorem Blk.ext (h : Blk w b cs t) (hE : Ext w w') : Blk w' b cs t := hE.heap h
theorem Blk.kp (h : Blk w b cs t) (hK : Kp X w w') (hx : ¬ X b) : Blk w' b cs t := hK.heap h hx
theorem Blk.lt (h : Blk w b cs t) : b < w.heap.size := blk_lt h
theorem Blk.cell (h : Blk w b cs t) {i : Nat} {v : Value} (hv : nth cs i = some v) : w.cell? ⟨b, i, none⟩ = some v := blk_cell h (by rw [nth_eq] at hv; simpa using hv)
theorem Blk.cells (h : Blk w b cs t) : ∀ j v, cs[j]? = some v → w.cell? ⟨b, 0 + j, none⟩ = some v := fun j v hv => blk_cell h (by simpa using hv)
end
/-- Cells side by side, as they lie. -/
def Cl (w : World) (b o : Nat) (vs : List Value) : Prop := ∀ j v, vs[j]? = some v → w.cell? ⟨b, o + j, none⟩ = some v
theorem Cl.cell {w : World} {b o i : Nat} {vs : List Value} {v : Value} (h : Cl w b o vs) (hv : nth vs i = some v) : w.cell? ⟨b, o + i, none⟩ = some v := h i v (by rw [nth_eq] at hv; exact hv)
theorem Cl.ext {w w' : World} {b o : Nat} {vs : List Value} (h : Cl w b o vs) (hE : Ext w w') : Cl w' b o vs := fun j v hv => hE.cell (h j v hv)
theorem Cl.kp {w w' : World} {b o : Nat} {vs : List Value} {X : Nat → Prop} (h : Cl w b o vs) (hK : Kp X w w') (hx : ¬ X b) : Cl w' b o vs := fun j v hv => hK.cell (h j v hv) hx
theorem w64 {x : Int} (h : -9223372036854775808 ≤ x ∧ x ≤ 9223372036854775807) : IntKind.i64.wrap x = x := by
  have := IntWalk.i64_in x (by omega); exact this
theorem PW.storeRun {P : Program} {l : Env} {w : World} {o : Oper} {b : Nat} {vs cs : Array Value} {t t' : TypeId} {m : Nat} {x y : Operand}
    (ho : o.op = .store t x y) (hx : ev l x = some (.pointer (some ⟨b, 0, none⟩))) (hy : ev l y = some (.agg vs)) (hs : ∀ w, (sizeOf t).run P w = .ok m w) (hm : vs.size = m) (h1 : ∀ v ∈ vs.toList, v.oneCell' = true)
    (hb : w.heap[b]? = some (.cells cs t' (0, 0))) (hc : cs.size = m) : Run0 P o l w (w.setRow b vs) := fun ρ hρ => by
  have hst := run_storeCells_at P b 0 t' vs.toList 0 cs w hb (by simp [hc, hm]) h1
  have hdrop : cs.toList.drop vs.toList.length = [] := List.drop_eq_nil_of_le (by simp [hc, hm])
  simp only [Nat.add_zero, Nat.zero_add, List.take_zero, List.nil_append, hdrop, List.append_nil] at hst
  simp [execOp, ho, hρ x _ hx, hρ y _ hy, Instr.storeAt, Instr.sureAddr, storeVar, Value.cells, hs, hm, hst]
theorem setRow_blk {w : World} {b : Nat} {vs cs : Array Value} {t : TypeId} (hb : w.heap[b]? = some (.cells cs t (0, 0))) : (w.setRow b vs).heap[b]? = some (.cells vs t (0, 0)) := setRow_heap w b cs vs t (0, 0) hb
theorem setRow_kp (w : World) (b : Nat) (vs : Array Value) : Kp (fun c => c = b) w (w.setRow b vs) := ⟨rfl, rfl, rfl, by simp, fun c _ hx => setRow_other w b c vs hx⟩
theorem SQ.storeA {P : Program} {n : Nat} {ds : List Deferred} {k : Ks} {l : Env} {w : World} {ops : Array Oper} {rest : List Oper} {o : Oper} {b : Nat} {vs cs : List Value} {t t' : TypeId} {m : Nat} {x y : Operand}
    (ho : o.op = .store t x y) (hg : o.guard = none) (hd : o.dst = none) (hx : ev l x = some (.pointer (some ⟨b, 0, none⟩))) (hy : ev l y = some (.agg vs.toArray)) (hs : ∀ w, (sizeOf t).run P w = .ok m w) (h1 : vs.all (·.oneCell') = true)
    (hb : Blk w b cs t') (hc : cs.length = vs.length ∧ vs.length = m)
    (h : ∀ w', w'.heap[b]? = some (.cells vs.toArray t' (0, 0)) → Kp (fun c => c = b) w w' → SQ P ops n ds k rest l w') : SQ P ops n ds k (o :: rest) l w :=
  SQ.op0 (w' := w.setRow b vs.toArray) hg hd (PW.storeRun ho hx hy hs (by simpa using hc.2) (by simpa [List.all_eq_true] using h1) hb (by simpa using hc.1.trans hc.2)) (h _ (setRow_blk hb) (setRow_kp w b _))
/-- An object of whatever kind. -/
def Ob (w : World) (b : Nat) (o : Obj) : Prop := w.heap[b]? = some o
theorem Ob.ext {w w' : World} {b : Nat} {o : Obj} (h : Ob w b o) (hE : Ext w w') : Ob w' b o := hE.heap h
theorem Ob.kp {w w' : World} {b : Nat} {o : Obj} {X : Nat → Prop} (h : Ob w b o) (hK : Kp X w w') (hx : ¬ X b) : Ob w' b o := hK.heap h hx
theorem Ob.lt {w : World} {b : Nat} {o : Obj} (h : Ob w b o) : b < w.heap.size := blk_lt h
section
variable {P : Program} {n : Nat} {ds : List Deferred} {k : Ks} {l : Env} {w : World} {ops : Array Oper} {rest : List Oper} {o : Oper}
theorem r_rangeStr {t : TypeId} {x : Operand} {s : ByteArray} (ho : o.op = .range t x) (hx : ev l x = some (.string s)) (hu : P.underlying t = some .string) :
    Run P o l w (.pointer (some ⟨w.heap.size, 0, none⟩)) (w.alloc (.stringIter s 0)) := fun ρ hρ => by
  simp [execOp, ho, hρ x _ hx, Instr.range, run_underlying hu]
theorem SQ.nextS {d r pos : Nat} {x : Operand} {s : ByteArray} (ho : o.op = .next x true) (hg : o.guard = none) (hd : o.dst = some d) (hn : Nat.blt d n = true) (hx : ev l x = some (.pointer (some ⟨r, 0, none⟩)))
    (hb : Ob w r (.stringIter s pos)) (hlt : pos < s.size)
    (h : ∀ w', Ob w' r (.stringIter s (pos + (Utf8.decode s pos).2)) → Kp (fun c => c = r) w w' → SQ P ops n ds k rest ((d, .tuple #[.bool true, .int .i64 (pos : Int), .int .i32 ((Utf8.decode s pos).1 : Int)]) :: l) w') : SQ P ops n ds k (o :: rest) l w := by
  have hb' : w.heap[r]? = some (.stringIter s pos) := hb
  have hr : r < w.heap.size := blk_lt hb'
  refine SQ.op (w' := { w with heap := w.heap.setIfInBounds r (.stringIter s (pos + (Utf8.decode s pos).2)) }) hg hd hn (fun ρ hρ => ?_) (h _ ?_ ?_)
  · simp [execOp, ho, hρ x _ hx, Instr.next, getObj, setObj, Sem.run, hb', hlt, goInt]
  · show (w.heap.setIfInBounds r _)[r]? = _
    rw [Array.getElem?_setIfInBounds_self_of_lt hr]
  · exact ⟨rfl, rfl, rfl, by simp, fun b _ hx => Array.getElem?_setIfInBounds_ne (fun e => hx e.symm)⟩
theorem SQ.nextE {d r pos : Nat} {x : Operand} {s : ByteArray} (ho : o.op = .next x true) (hg : o.guard = none) (hd : o.dst = some d) (hn : Nat.blt d n = true) (hx : ev l x = some (.pointer (some ⟨r, 0, none⟩)))
    (hb : Ob w r (.stringIter s pos)) (hlt : ¬ pos < s.size) (h : SQ P ops n ds k rest ((d, .tuple #[.bool false]) :: l) w) : SQ P ops n ds k (o :: rest) l w := by
  have hb' : w.heap[r]? = some (.stringIter s pos) := hb
  refine SQ.op hg hd hn (fun ρ hρ => ?_) h
  simp [execOp, ho, hρ x _ hx, Instr.next, getObj, Sem.run, hb', hlt]
/-- A guard whose own operation was passed over. -/
theorem wantedOfU {a : Act} {d : Nat} {i : Nat} {want : Bool} {oi : Oper} (hF : Fr n ds l a) (hg : o.guard = some (i, want)) (hi : ops[i]? = some oi) (hd : oi.dst = some d) (hv : lk l d = some undef) :
    Region.wanted o (yielded ops a.tmps) = false := by
  have h1 := hF.get d _ hv
  simp [Region.wanted, hg, yielded, hi, hd, h1, undef]
theorem SQ.skipU {d i dj : Nat} {want : Bool} {oi : Oper} (hg : o.guard = some (i, want)) (hi : ops[i]? = some oi) (hj : oi.dst = some dj) (hv : lk l dj = some undef)
    (hd : o.dst = some d) (hn : Nat.blt d n = true) (h : SQ P ops n ds k rest ((d, undef) :: l) w) : SQ P ops n ds k (o :: rest) l w := fun a hF => by
      unfold wpList
      rw [wantedOfU hF hg hi hj hv, if_neg (by simp), hd]
      exact h _ (hF.put hn undef)
theorem SQ.skipU_ {i dj : Nat} {want : Bool} {oi : Oper} (hg : o.guard = some (i, want)) (hi : ops[i]? = some oi) (hj : oi.dst = some dj) (hv : lk l dj = some undef)
    (hd : o.dst = none) (h : SQ P ops n ds k rest l w) : SQ P ops n ds k (o :: rest) l w := fun a hF => by
      unfold wpList
      rw [wantedOfU hF hg hi hj hv, if_neg (by simp), hd]
      exact h _ hF
theorem QZ.skipU {d i dj : Nat} {want : Bool} {oi : Oper} (hg : o.guard = some (i, want)) (hi : ops[i]? = some oi) (hj : oi.dst = some dj) (hv : lk l dj = some undef)
    (hd : o.dst = some d) (hn : Nat.blt d n = true) (h : QZ P ops n ds w k rest ((d, undef) :: l)) : QZ P ops n ds w k (o :: rest) l := fun a hF => wpQuiet_step fun K hK => by
      rw [wantedOfU hF hg hi hj hv, if_neg (by simp), hd]
      exact hK _ (h _ (hF.put hn undef))
/-! ### Labels -/
theorem W.scope {nrm : Kont} {exs gts : List (Nat × Kont)} {rt : Kont} {pn : List PanicEntry → Kont} {ot : Kont} {c : Code} (h : W P n ds c ⟨nrm, exs, [], rt, pn, ot⟩ l w) : W P n ds (.scope c) ⟨nrm, exs, gts, rt, pn, ot⟩ l w :=
  fun a hF => wp_scope_straight (Code.wp_mono (fun e a w q => by
    cases e with
    | goto i => obtain ⟨c, hc, _⟩ := q; simp [lkE] at hc
    | normal => exact q
    | exit id => exact q
    | ret => exact q
    | panic c => exact q
    | outgrown => exact q) (h a hF))
/-- A scope in which the run jumps to one label: what holds at the label. -/
theorem W.scopeJ {nrm : Kont} {exs gts : List (Nat × Kont)} {rt : Kont} {pn : List PanicEntry → Kont} {ot : Kont} {α : Type} {c rest : Code} (i : Nat) (env : α → Env) (I : α → World → Prop) (μ : α → Nat) (hf : findLabel c i = some rest)
    (first : W P n ds c ⟨nrm, exs, [(i, Mid n ds env I)], rt, pn, ot⟩ l w)
    (pass : ∀ x w, I x w → W P n ds rest ⟨nrm, exs, [(i, Rnd n ds env I μ x)], rt, pn, ot⟩ (env x) w) : W P n ds (.scope c) ⟨nrm, exs, gts, rt, pn, ot⟩ l w := by
  classical
  intro a hF b kk cs
  have hg : gotoIn i (.inScope c :: kk) = some (.code rest :: .inScope c :: kk) := by simp [gotoIn, hf]
  have key : ∀ m x a w, μ x = m → Fr n ds (env x) a → I x w → ∃ e a' w', (Ks.Q ⟨nrm, exs, gts, rt, pn, ot⟩) e a' w' ∧ Arrives P (lone (b.at a (.code rest :: .inScope c :: kk)) cs w) b kk cs e a' w' := by
    intro m
    induction m using Nat.strongRecOn with
    | _ m ih =>
      intro x a w hm hFr hI
      obtain ⟨e, a₁, w₁, hq, harr⟩ := pass x w hI a hFr b (.inScope c :: kk) cs
      cases e with
      | normal => exact ⟨.normal, a₁, w₁, hq, Steps.trans harr (.one step_inScope)⟩
      | exit id => exact ⟨.exit id, a₁, w₁, hq, fun k' hk => harr k' (by simp [exitTo, hk])⟩
      | goto l' =>
        obtain ⟨cc, hc, hq⟩ := hq
        simp only [lkE_cons] at hc
        by_cases e : i = l'
        · subst e; rw [if_pos rfl] at hc; cases hc
          obtain ⟨x', hF', hI', hlt⟩ := hq
          obtain ⟨e₂, a₂, w₂, hq₂, harr₂⟩ := ih _ (by omega) x' a₁ w₁ rfl hF' hI'
          exact ⟨e₂, a₂, w₂, hq₂, .of_steps (harr _ hg) harr₂⟩
        · rw [if_neg e] at hc; simp [lkE] at hc
      | ret => exact ⟨.ret, a₁, w₁, hq, harr⟩
      | panic ch => exact ⟨.panic ch, a₁, w₁, hq, harr⟩
      | outgrown => exact ⟨.outgrown, a₁, w₁, hq, harr⟩
  obtain ⟨e, a₁, w₁, hq, harr⟩ := first a hF b (.inScope c :: kk) cs
  cases e with
  | normal => exact ⟨.normal, a₁, w₁, hq, .head step_scope (Steps.trans harr (.one step_inScope))⟩
  | exit id => exact ⟨.exit id, a₁, w₁, hq, fun k' hk => .head step_scope (harr k' (by simp [exitTo, hk]))⟩
  | goto l' =>
    obtain ⟨cc, hc, hq⟩ := hq
    simp only [lkE_cons] at hc
    by_cases e : i = l'
    · subst e; rw [if_pos rfl] at hc; cases hc
      obtain ⟨x', hF', hI'⟩ := hq
      obtain ⟨e₂, a₂, w₂, hq₂, harr₂⟩ := key _ x' a₁ w₁ rfl hF' hI'
      exact ⟨e₂, a₂, w₂, hq₂, .of_steps (.head step_scope (harr _ hg)) harr₂⟩
    · rw [if_neg e] at hc; simp [lkE] at hc
  | ret => exact ⟨.ret, a₁, w₁, hq, .of_steps (.one step_scope) harr⟩
  | panic ch => exact ⟨.panic ch, a₁, w₁, hq, .of_steps (.one step_scope) harr⟩
  | outgrown => exact ⟨.outgrown, a₁, w₁, hq, .of_steps (.one step_scope) harr⟩
theorem C.jump {α : Type} {env : α → Env} {I : α → World → Prop} (g : α) (hs : Sub (env g) l) (hI : I g w) : C n ds (Mid n ds env I) l w := fun _ hF => ⟨g, hF.sub hs, hI⟩
end
theorem Ext.calls {P : Program} {f : FuncId} {args : Array Value} {w w' : World} {v : Value} (hE : Ext w w') (h : Calls P f args w' fun e w'' => e = .returned v ∧ Ext w' w'') : Calls P f args w' fun e w'' => e = .returned v ∧ Ext w w'' :=
  h.mono fun _ _ ⟨h1, h2⟩ => ⟨h1, hE.trans h2⟩
/-! ### Contracts off the shelf -/
theorem of_same {P : Program} {f : FuncId} {args : Array Value} {w : World} {v : Value} (h : Calls P f args w fun e w' => e = .returned v ∧ w' = w) : Calls P f args w fun e w' => e = .returned v ∧ Ext w w' :=
  h.mono fun _ _ ⟨h1, h2⟩ => ⟨h1, h2 ▸ Kp.refl _ _⟩
theorem of_below {P : Program} {f : FuncId} {args : Array Value} {w : World} {v : Value} (h : Calls P f args w fun e w' => e = .returned v ∧ Below w.heap.size w w') : Calls P f args w fun e w' => e = .returned v ∧ Ext w w' :=
  h.mono fun _ _ ⟨h1, h2⟩ => ⟨h1, Ext.of_below h2⟩
theorem Ext.grow (w : World) (os : Array Obj) : Ext w (Go.Sort.grow w os) := ⟨rfl, rfl, rfl, by simp [Go.Sort.grow], fun b hb _ => by
  show (w.heap ++ os)[b]? = _
  rw [Array.getElem?_append_left hb]⟩
theorem Ext.drewN (w : World) (n : Nat) : Ext w (w.drewN n) := by
  induction n generalizing w with
  | zero => exact Kp.refl _ _
  | succ n ih => rw [← World.drew_drewN]; exact Ext.trans (ih w) (Ext.drew _)
theorem of_grow {P : Program} {f : FuncId} {args : Array Value} {w : World} {v : Value} (h : Calls P f args w fun e w' => e = .returned v ∧ ∃ k os, w' = Go.Sort.grow (w.drewN k) os) : Calls P f args w fun e w' => e = .returned v ∧ Ext w w' :=
  h.mono fun _ _ ⟨h1, k, os, h2⟩ => ⟨h1, h2 ▸ Ext.trans (Ext.drewN w k) (Ext.grow _ os)⟩
theorem Ext.freeze (w : World) (a : Addr) (n : Nat) (h : w.heap.size ≤ a.block) : Ext w (w.freeze a n) := by
  unfold World.freeze
  split
  · exact Kp.refl _ _
  · exact ⟨rfl, rfl, rfl, by simp, fun b hb _ => by
      simp only [Array.getElem?_modify]
      rw [if_neg (by omega)]⟩
/-! ### Rows of the call's own -/
/-- The slice v, of n elements, z cells each, lies in a block of its own from base on; its cells are xs. -/
def Ow (w : World) (base : Nat) (e : TypeId) (z : Nat) (v : Value) (n : Nat) (xs : List Value) : Prop := w.ownsRow base e z v n xs
section
variable {w w' : World} {base : Nat} {e : TypeId} {z n : Nat} {v : Value} {xs : List Value} {X : Nat → Prop}
theorem Ow.kp (h : Ow w base e z v n xs) (hK : Kp X w w') (hx : ∀ b, X b → v.ownBlock ≠ some b) : Ow w' base e z v n xs := by
  refine ⟨h.1, ?_⟩
  rcases h.2 with hn | ⟨g, cap, cur, rfl, hb, hg, r⟩
  · exact .inl hn
  · exact .inr ⟨g, cap, cur, rfl, hb, hK.heap hg (fun hX => hx g hX rfl), r⟩
theorem Ow.ext (h : Ow w base e z v n xs) (hE : Ext w w') : Ow w' base e z v n xs := h.kp hE (fun _ h => h.elim)
theorem Ow.nil (w : World) (base : Nat) (e : TypeId) (z : Nat) : Ow w base e z (.slice none 0 0) 0 [] := World.ownsRow_nil w base e z
theorem Ow.lt (h : Ow w base e z v n xs) : ∀ k, v.ownBlock = some k → base ≤ k ∧ k < w.heap.size := World.ownsRow.lt h
/-- A block of other elements is another one. -/
theorem Ow.ne {b : Nat} {cs : List Value} {t : TypeId} (h : Ow w base e z v n xs) (hB : Blk w b cs t) (hne : Nat.beq e t = false) : v.ownBlock ≠ some b := by
  intro hv
  rcases h.2 with ⟨rfl, _⟩ | ⟨g, cap, cur, rfl, hb, hg, _⟩
  · simp [Value.ownBlock] at hv
  · have : g = b := by simpa [Value.ownBlock] using hv
    subst this
    have hB' : w.heap[g]? = some (.cells cs.toArray t (0, 0)) := hB
    rw [hg] at hB'
    injection hB' with hB'
    injection hB' with _ ht
    subst ht
    simp at hne
theorem Ow.ne_ {base' : Nat} {e' : TypeId} {z' n' : Nat} {v' : Value} {xs' : List Value} (h : Ow w base e z v n xs) (h' : Ow w base' e' z' v' n' xs') (hne : Nat.beq e e' = false) : ∀ b, v'.ownBlock = some b → v.ownBlock ≠ some b := by
  intro b hb hv
  rcases h.2 with ⟨rfl, _⟩ | ⟨g, cap, cur, rfl, _, hg, _⟩
  · simp [Value.ownBlock] at hv
  · rcases h'.2 with ⟨rfl, _⟩ | ⟨g', cap', cur', rfl, _, hg', _⟩
    · simp [Value.ownBlock] at hb
    · have e1 : g = b := by simpa [Value.ownBlock] using hv
      have e2 : g' = b := by simpa [Value.ownBlock] using hb
      subst e1; subst e2
      rw [hg] at hg'
      injection hg' with hg'
      injection hg' with _ ht
      subst ht
      simp at hne
theorem Ow.len (h : Ow w base e z v n xs) : xs.length = n * z := h.1
theorem Ow.slice (h : Ow w base e z v n xs) : ∃ A c, v = .slice A n c := by
  rcases h.2 with ⟨rfl, rfl⟩ | ⟨g, cap, cur, rfl, _⟩
  · exact ⟨none, 0, rfl⟩
  · exact ⟨_, cap, rfl⟩
theorem Ow.cl (h : Ow w base e z v n xs) (hn : 0 < n) : ∃ g cap, v = .slice (some ⟨g, 0, none⟩) n cap ∧ base ≤ g ∧ n ≤ cap ∧ Cl w g 0 xs := by
  rcases h.2 with ⟨rfl, rfl⟩ | ⟨g, cap, cur, rfl, hb, hg, hc, _, _, ht⟩
  · omega
  · refine ⟨g, cap, rfl, hb, hc, fun j u hu => ?_⟩
    have := World.ownsRow.cells h (g := g) rfl j u hu
    rwa [addr_add] at this
end
section
variable {P : Program} {n : Nat} {ds : List Deferred} {k : Ks} {l : Env} {w : World} {ops : Array Oper} {rest : List Oper} {o : Oper}
/-- append(s, x...), s a row of the call's own. -/
theorem append_run {s x : Operand} {t e : TypeId} {i : TypeInfo} {zv : Value} {z bytes base m : Nat} {v : Value} {xs : List Value} {nb c j : Nat} {news : List Value} {fr : Nat × Nat}
    (ho : o.op = .call { callee := .builtin .append, args := #[s, x], argTypes := #[t, t] }) (ht : P.underlying t = some (.slice e)) (hi : P.info? e = some i) (hz : i.zero = some zv) (hsz : i.size = z) (hby : i.bytes = bytes) (hzs : zv.cells.size = z) (hz0 : Nat.blt 0 z = true)
    (hs : ev l s = some v) (hx : ev l x = some (.slice (some ⟨nb, 0, none⟩) j c)) (hO : Ow w base e z v m xs) (hB : w.heap[nb]? = some (.cells news.toArray e fr)) (hl : news.length = j * z) (h1 : news.all (·.oneCell') = true) (hb : base ≤ w.heap.size) (hm : (m + j) * bytes ≤ 140737488355328) (hbp : Nat.blt 0 bytes = true) :
    ∃ v' w', (∀ ρ, Agree ρ l → (execOp ρ o).run P w = .ok (.value v') w') ∧ Ow w' base e z v' (m + j) (xs ++ news) ∧ Kp (fun b => v.ownBlock = some b) w w' := by
  have hbp' : 0 < bytes := by simpa using hbp
  have hmm : m + j ≤ 140737488355328 := Nat.le_trans (Nat.le_mul_of_pos_right _ hbp') hm
  obtain ⟨v', w', hr, h2, h3, _⟩ := run_append_own (P := P) w base t o.type e i zv z bytes ht hi hz hsz hby hzs (by simpa using hz0) v m xs hO ⟨nb, 0, none⟩ j c news hl
    (fun q u hu => by rw [addr_add, Nat.zero_add]; exact blk_cell hB (by simpa using hu)) (by simpa [List.all_eq_true] using h1) (by simp only [maxLen]; omega) hm hb
  refine ⟨v', w', fun ρ hρ => ?_, h2, Ext.grown h3⟩
  simp [execOp, ho, resolve, invoke, builtin, hρ s _ hs, hρ x _ hx, hr]
theorem SQ.append {d : Nat} {s x : Operand} {t e : TypeId} {i : TypeInfo} {zv : Value} {z bytes base m : Nat} {v : Value} {xs : List Value} {nb c j : Nat} {news : List Value} {fr : Nat × Nat}
    (ho : o.op = .call { callee := .builtin .append, args := #[s, x], argTypes := #[t, t] }) (hg : o.guard = none) (hd : o.dst = some d) (hn : Nat.blt d n = true) (ht : P.underlying t = some (.slice e)) (hi : P.info? e = some i) (hz : i.zero = some zv) (hsz : i.size = z) (hby : i.bytes = bytes) (hzs : zv.cells.size = z) (hz0 : Nat.blt 0 z = true)
    (hs : ev l s = some v) (hx : ev l x = some (.slice (some ⟨nb, 0, none⟩) j c)) (hO : Ow w base e z v m xs) (hB : w.heap[nb]? = some (.cells news.toArray e fr)) (hl : news.length = j * z) (h1 : news.all (·.oneCell') = true) (hb : base ≤ w.heap.size) (hm : (m + j) * bytes ≤ 140737488355328) (hbp : Nat.blt 0 bytes = true)
    (h : ∀ v' w', Ow w' base e z v' (m + j) (xs ++ news) → Kp (fun b => v.ownBlock = some b) w w' → SQ P ops n ds k rest ((d, v') :: l) w') : SQ P ops n ds k (o :: rest) l w := by
  obtain ⟨v', w', h1, h2, h3⟩ := append_run ho ht hi hz hsz hby hzs hz0 hs hx hO hB hl h1 hb hm hbp
  exact SQ.op hg hd hn h1 (h v' w' h2 h3)
theorem OW.append {K : Kont} {d : Nat} {s x : Operand} {t e : TypeId} {i : TypeInfo} {zv : Value} {z bytes base m : Nat} {v : Value} {xs : List Value} {nb c j : Nat} {news : List Value} {fr : Nat × Nat}
    (ho : o.op = .call { callee := .builtin .append, args := #[s, x], argTypes := #[t, t] }) (hd : o.dst = some d) (hn : Nat.blt d n = true) (ht : P.underlying t = some (.slice e)) (hi : P.info? e = some i) (hz : i.zero = some zv) (hsz : i.size = z) (hby : i.bytes = bytes) (hzs : zv.cells.size = z) (hz0 : Nat.blt 0 z = true)
    (hs : ev l s = some v) (hx : ev l x = some (.slice (some ⟨nb, 0, none⟩) j c)) (hO : Ow w base e z v m xs) (hB : w.heap[nb]? = some (.cells news.toArray e fr)) (hl : news.length = j * z) (h1 : news.all (·.oneCell') = true) (hb : base ≤ w.heap.size) (hm : (m + j) * bytes ≤ 140737488355328) (hbp : Nat.blt 0 bytes = true)
    (h : ∀ v' w', Ow w' base e z v' (m + j) (xs ++ news) → Kp (fun b => v.ownBlock = some b) w w' → C n ds K ((d, v') :: l) w') : OW P o n ds k l w K := by
  obtain ⟨v', w', h1, h2, h3⟩ := append_run ho ht hi hz hsz hby hzs hz0 hs hx hO hB hl h1 hb hm hbp
  exact OW.op hd hn h1 (h v' w' h2 h3)
end
end Go.FL
