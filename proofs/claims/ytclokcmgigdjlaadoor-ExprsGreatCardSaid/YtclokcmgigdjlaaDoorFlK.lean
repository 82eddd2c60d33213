/- Deferred calls and recover. No project text. -/
import Derived.Test.YtclokcmgigdjlaaDoorFlJ
import Derived.Defers
import Derived.Recover
set_option linter.unusedSimpArgs false
set_option linter.unusedVariables false
namespace Go.FL
open Go.RowKit
section
variable {P : Program} {l : Env} {w : World} {o : Oper}
theorem r_assertY {x : Operand} {xt t : TypeId} {v : Value} {fs : Array Field} (ho : o.op = .typeAssert x xt t true) (hx : ev l x = some (.iface t v)) (hu : P.underlying t = some (.struct fs)) : Run P o l w (.tuple #[v, .bool true]) w := fun ρ hρ => by
  simp [execOp, ho, hρ x _ hx, Instr.typeAssert, run_underlying hu]
theorem r_assertN {x : Operand} {xt t : TypeId} {z : Value} {fs : Array Field} (ho : o.op = .typeAssert x xt t true) (hx : ev l x = some .nilIface) (hu : P.underlying t = some (.struct fs)) (hz : ∀ w, (zeroValue t).run P w = .ok z w) : Run P o l w (.tuple #[z, .bool false]) w := fun ρ hρ => by
  simp [execOp, ho, hρ x _ hx, Instr.typeAssert, run_underlying hu, hz]
end
/-! ### Regions that recover -/
def SS (P : Program) (ops : Array Oper) (n : Nat) (cs : List Frame) (Q : Exit → Act → List Frame → World → Prop) (is : List Nat) (l : Env) (w : World) : Prop := ∀ a, Fr n [] l a → wpOpsS P ops Q is a cs w
section
variable {P : Program} {n : Nat} {l : Env} {w : World} {ops : Array Oper} {o : Oper} {cs : List Frame} {Q : Exit → Act → List Frame → World → Prop} {i : Nat} {is : List Nat}
theorem SS.op {d : Nat} {v : Value} {w' : World} (hi : opAt ops i = some o) (hg : o.guard = none) (hd : o.dst = some d) (hn : Nat.blt d n = true) (hr : Run P o l w v w') (h : SS P ops n cs Q is ((d, v) :: l) w') : SS P ops n cs Q (i :: is) l w := fun a hF => by
  unfold wpOpsS
  rw [opAt_eq hi]
  simp only [wanted_none hg, if_true, hr _ hF.agree, Oper.upon, hd]
  exact h _ (hF.put hn v)
theorem SS.op0 {w' : World} (hi : opAt ops i = some o) (hg : o.guard = none) (hd : o.dst = none) (hr : Run0 P o l w w') (h : SS P ops n cs Q is l w') : SS P ops n cs Q (i :: is) l w := fun a hF => by
  unfold wpOpsS
  rw [opAt_eq hi]
  simp only [wanted_none hg, if_true, hr _ hF.agree, Oper.upon, hd]
  exact h _ hF
theorem SS.new {d : Nat} {v : Nat → Value} {obj : Obj} (hi : opAt ops i = some o) (hg : o.guard = none) (hd : o.dst = some d) (hn : Nat.blt d n = true) (hr : Run P o l w (v w.heap.size) (w.alloc obj))
    (h : ∀ nb w', w.heap.size ≤ nb → nb < w'.heap.size → w'.heap[nb]? = some obj → Ext w w' → SS P ops n cs Q is ((d, v nb) :: l) w') : SS P ops n cs Q (i :: is) l w :=
  SS.op hi hg hd hn hr (h _ _ (Nat.le_refl _) (by simp) (alloc_new w obj) (Ext.alloc w obj))
theorem SS.storeA {b : Nat} {vs cs' : List Value} {t t' : TypeId} {m : Nat} {x y : Operand} (hi : opAt ops i = some o) (hg : o.guard = none) (hd : o.dst = none)
    (ho : o.op = .store t x y) (hx : ev l x = some (.pointer (some ⟨b, 0, none⟩))) (hy : ev l y = some (.agg vs.toArray)) (hs : ∀ w, (sizeOf t).run P w = .ok m w) (h1 : vs.all (·.oneCell') = true)
    (hb : Blk w b cs' t') (hc : cs'.length = vs.length ∧ vs.length = m)
    (h : ∀ w', w'.heap[b]? = some (.cells vs.toArray t' (0, 0)) → Kp (fun c => c = b) w w' → SS P ops n cs Q is l w') : SS P ops n cs Q (i :: is) l w :=
  SS.op0 (w' := w.setRow b vs.toArray) hi hg hd (PW.storeRun ho hx hy hs (by simpa using hc.2) (by simpa [List.all_eq_true] using h1) hb (by simpa using hc.1.trans hc.2)) (h _ (setRow_blk hb) (setRow_kp w b _))
theorem run_recover {ρ : Operand → Value} {ts : Array TypeId} (ho : o.op = .call { callee := .builtin .recover, args := #[], argTypes := ts }) : (execOp ρ o).run P w = .ok .recover w := by
  simp [execOp, ho, resolve, invoke, builtin]
theorem SS.recover {d : Nat} {v : Value} {cs' : List Frame} {ts : Array TypeId} (hi : opAt ops i = some o) (hg : o.guard = none) (hd : o.dst = some d) (hn : Nat.blt d n = true) (ho : o.op = .call { callee := .builtin .recover, args := #[], argTypes := ts })
    (hr : recoverD cs = some (v, cs')) (h : SS P ops n cs' Q is ((d, v) :: l) w) : SS P ops n cs Q (i :: is) l w := fun a hF => by
  unfold wpOpsS
  rw [opAt_eq hi]
  simp only [wanted_none hg, if_true, run_recover ho, hr, hd]
  exact h _ (hF.put hn v)
theorem SS.recoverN {d : Nat} {ts : Array TypeId} (hi : opAt ops i = some o) (hg : o.guard = none) (hd : o.dst = some d) (hn : Nat.blt d n = true) (ho : o.op = .call { callee := .builtin .recover, args := #[], argTypes := ts })
    (hr : recoverD cs = none) (h : SS P ops n cs Q is ((d, .nilIface) :: l) w) : SS P ops n cs Q (i :: is) l w := fun a hF => by
  unfold wpOpsS
  rw [opAt_eq hi]
  simp only [wanted_none hg, if_true, run_recover ho, hr, hd]
  exact h _ (hF.put hn .nilIface)
theorem recoverD_yes {c : Frame} {cs : List Frame} {v : Value} {older : List PanicEntry} (h : c.mode = .panicking ({ v, recovered := false } :: older)) : recoverD (c :: cs) = some (v, { c with mode := .panicking ({ v, recovered := true } :: older) } :: cs) := by
  simp [recoverD, h]
theorem recoverD_no {c : Frame} {cs : List Frame} (h : c.mode = .returning) : recoverD (c :: cs) = none := by simp [recoverD, h]
/-- What is behind the region. -/
theorem SS.nil {y : Code} {fn : Func} {R' : Ending → FrameMode → World → Prop} {c₀ : Frame} {cs₀ : List Frame} {u' : FrameMode} (hcs : cs = { c₀ with mode := u' } :: cs₀)
    (h : W P n [] y ⟨FRet P fn (fun e w => R' e u' w), [], [], FRet P fn (fun e w => R' e u' w), FPan (fun e w => R' e u' w), FOut (fun e w => R' e u' w)⟩ l w) :
    SS P ops n cs (Exit.thenS (y.wpS P (bodyPostS P fn c₀ cs₀ R')) (bodyPostS P fn c₀ cs₀ R')) [] l w := fun a hF => by
  show y.wpS P (bodyPostS P fn c₀ cs₀ R') a cs w
  refine wpS_of_wp (Code.wp_mono (fun e a w q => ?_) (h a hF))
  subst hcs
  cases e with
  | normal => obtain ⟨h1, v, h2, h3⟩ := q; exact ⟨h1, u', rfl, v, h2, h3⟩
  | ret => obtain ⟨h1, v, h2, h3⟩ := q; exact ⟨h1, u', rfl, v, h2, h3⟩
  | exit id => obtain ⟨c, hc, _⟩ := q; simp [lkE] at hc
  | goto l => obtain ⟨c, hc, _⟩ := q; simp [lkE] at hc
  | panic c => exact ⟨q.1, u', rfl, q.2⟩
  | outgrown => exact ⟨u', q⟩
/-- A deferred call that recovers. -/
theorem callsD_of {f : FuncId} {fn : Func} {os : List Oper} {id m : Nat} {y : Code} {args : Array Value} {u : FrameMode} {w : World} {R : Ending → FrameMode → World → Prop}
    (hf : P.funcs[f]? = some fn) (hb : fn.body = some (.seq (.region id os.toArray false) y)) (hm : fn.ntmps = m) (hle : Nat.ble args.size m = true)
    (h : ∀ (c₀ : Frame) (cs : List Frame), c₀.mode = u → SS P os.toArray m (c₀ :: cs) (Exit.thenS (y.wpS P (bodyPostS P fn c₀ cs R)) (bodyPostS P fn c₀ cs R)) (List.range os.length) (argEnv 0 args.toList) w) : CallsD P f args u w R := by
  have hle' : args.size ≤ m := by simpa using hle
  refine callsD_of_wpS hf hb (fun c₀ cs hu => wpS_seq (wpS_region ?_))
  have := h c₀ cs hu { tmps := args ++ Array.replicate (fn.ntmps - args.size) undef, defers := [] } ⟨by simp [hm]; omega, rfl, fun t v hv => by
    obtain ⟨_, h2⟩ := lk_argEnv _ _ _ _ hv
    have : args[t]? = some v := by simpa using h2
    have hlt : t < args.size := (Array.getElem?_eq_some_iff.1 this).1
    show (args ++ _)[t]? = some v
    rw [Array.getElem?_append_left hlt]; exact this⟩
  simpa using this
end
/-! ### A function that defers one call -/
/-- What the body owes, ds the calls that were put off. -/
def DRet (P : Program) (fn : Func) (R : Ending → World → Prop) : Kont := fun a w => Leaves P fn a.tmps R a.defers .returning w
def DPan (P : Program) (fn : Func) (R : Ending → World → Prop) (ch : List PanicEntry) : Kont := fun a w => Leaves P fn a.tmps R a.defers (.panicking ch) w
theorem calls_ofD {P : Program} {f : FuncId} {fn : Func} {c : Code} {args : Array Value} {w : World} {R : Ending → World → Prop} {m : Nat}
    (hf : P.funcs[f]? = some fn) (hb : fn.body = some c) (hm : fn.ntmps = m) (hle : Nat.ble args.size m = true)
    (h : W P m [] c ⟨DRet P fn R, [], [], DRet P fn R, DPan P fn R, FOut R⟩ (argEnv 0 args.toList) w) : Calls P f args w R := by
  have hle' : args.size ≤ m := by simpa using hle
  refine calls_of_wp_defers hf hb (Code.wp_mono (Q := Ks.Q ⟨DRet P fn R, [], [], DRet P fn R, DPan P fn R, FOut R⟩) (fun e a w q => ?_) (h _ ⟨?_, rfl, fun t v hv => ?_⟩))
  · cases e with
    | normal => exact q
    | exit id => obtain ⟨c, hc, _⟩ := q; simp [lkE] at hc
    | goto l => obtain ⟨c, hc, _⟩ := q; simp [lkE] at hc
    | ret => exact q
    | panic c => exact q
    | outgrown => exact q
  · simp [hm]; omega
  · obtain ⟨_, h2⟩ := lk_argEnv _ _ _ _ hv
    have : args[t]? = some v := by simpa using h2
    have hlt : t < args.size := (Array.getElem?_eq_some_iff.1 this).1
    show (args ++ _)[t]? = some v
    rw [Array.getElem?_append_left hlt]; exact this
section
variable {P : Program} {n : Nat} {ds : List Deferred} {l : Env} {w : World} {ops : Array Oper} {rest : List Oper} {o : Oper} {nrm : Kont} {exs gts : List (Nat × Kont)} {rt : Kont} {pn : List PanicEntry → Kont} {ot : Kont}
/-- A call is put off: what follows knows it. -/
theorem SQ.defer {x : Operand} {f : FuncId} {cs : List Value} {ts : Array TypeId} (hg : o.guard = none) (hd : o.dst = none) (ho : o.op = .defer { callee := .value x, args := #[], argTypes := ts }) (hx : ev l x = some (.func (.func f) #[] cs.toArray))
    (h : ∀ d : Deferred, d.target = .fn (.func f) cs.toArray → d.args = #[] → SQ P ops n (d :: ds) ⟨nrm, exs, gts, rt, pn, ot⟩ rest l w) : SQ P ops n ds ⟨nrm, exs, gts, rt, pn, ot⟩ (o :: rest) l w := fun a hF => wpList_plain hg fun K hK => by
  unfold Oper.wp
  have hr : ∃ d : Deferred, d.target = .fn (.func f) cs.toArray ∧ d.args = #[] ∧ (execOp a.eval o).run P w = .ok (.defer d) w := by
    refine ⟨_, ?_, ?_, by simp [execOp, ho, resolve, hF.agree x _ hx, Deferred.ofValue]; rfl⟩ <;> rfl
  obtain ⟨d, h1, h2, hr⟩ := hr
  rw [hr]
  show K _ _
  rw [hd]
  exact hK _ _ (h d h1 h2 _ ⟨hF.size, by simp [Act.put, hF.defs], hF.get⟩)
end
section
variable {P : Program} {n : Nat} {ds : List Deferred} {l : Env} {w : World} {R : Ending → World → Prop} {fn : Func}
theorem Rs.results {a : Act} {rs : List ResultVar} {vs : List Value} (hF : Fr n ds l a) (hr : fn.results = rs.toArray) (hv : Rs P l w rs vs) : (results fn a.tmps).run P w = .ok (tupleOf vs) w := by
  have h := C.retL (P := P) (fn := fn) (R := fun e _ => e = .returned (tupleOf vs)) (n := n) hr hv rfl { a with defers := [] } ⟨hF.size, rfl, hF.get⟩
  obtain ⟨_, v, h1, h2⟩ := h
  cases h2
  exact h1
theorem C.dret0 {rs : List ResultVar} {vs : List Value} (hr : fn.results = rs.toArray) (hv : Rs P l w rs vs) (h : R (.returned (tupleOf vs)) w) : C n [] (DRet P fn R) l w := fun a hF => by
  show Leaves P fn a.tmps R a.defers .returning w
  rw [hF.defs]
  exact ⟨_, hv.results hF hr, h⟩
def slotOf : ResultVar → Nat
  | .tmp t => t
  | .cell t _ => t
theorem results_put {a : Act} {rs : List ResultVar} {d : Nat} {v : Value} (hr : fn.results = rs.toArray) (hd : rs.all (fun r => !Nat.beq (slotOf r) d) = true) : results fn (a.put (some d) v).tmps = results fn a.tmps := by
  have hg : ∀ t, t ≠ d → (a.put (some d) v).tmps.getD t undef = a.tmps.getD t undef := fun t ht => by
    show (a.tmps.setIfInBounds d v).getD t undef = _
    rw [Array.getD_eq_getD_getElem?, Array.getD_eq_getD_getElem?, Array.getElem?_setIfInBounds_ne (fun e => ht e.symm)]
  unfold results
  rw [hr, List.mapM_toArray, List.mapM_toArray]
  have key : ∀ (rs : List ResultVar), rs.all (fun r => !Nat.beq (slotOf r) d) = true →
      rs.mapM (fun r => match r with | .tmp t => pure ((a.put (some d) v).tmps.getD t undef) | .cell b t => do loadVar t (← asAddr ((a.put (some d) v).tmps.getD b undef)) : ResultVar → Sem Value)
      = rs.mapM (fun r => match r with | .tmp t => pure (a.tmps.getD t undef) | .cell b t => do loadVar t (← asAddr (a.tmps.getD b undef)) : ResultVar → Sem Value) := by
    intro rs
    induction rs with
    | nil => intro _; rfl
    | cons r rs ih =>
      intro h
      simp only [List.all_cons, Bool.and_eq_true] at h
      have h1 : slotOf r ≠ d := by
        intro e
        have := h.1
        rw [e] at this
        simp at this
      rw [List.mapM_cons, List.mapM_cons, ih h.2]
      cases r with
      | tmp t => simp only [hg t h1]
      | cell b t => simp only [hg b h1]
  exact congrArg (fun m => ((List.toArray <$> m : Sem (Array Value)) >>= fun vs => pure (if h : vs.size = 1 then vs[0] else .tuple vs))) (key rs hd)
theorem leaves_congr {t t' : Array Value} (h : results fn t = results fn t') : ∀ (ds : List Deferred) (u : FrameMode) (w : World), Leaves P fn t R ds u w → Leaves P fn t' R ds u w
  | [], .returning, w, hl => by
    obtain ⟨v, h1, h2⟩ := hl
    exact ⟨v, h ▸ h1, h2⟩
  | [], .panicking ch, w, hl => hl
  | [], .run, w, hl => hl
  | d :: ds, u, w, hl => by
    obtain ⟨h0, fv, cap, f, args, h1, h2, hc⟩ := hl
    refine ⟨h0, fv, cap, f, args, h1, h2, hc.mono fun e u' w' hq => ?_⟩
    cases e with
    | returned v => exact leaves_congr h ds _ w' hq
    | panicked ch => exact leaves_congr h ds _ w' hq
    | outgrown => exact hq
theorem DPan.ok {rs : List ResultVar} {d : Nat} (hr : fn.results = rs.toArray) (hd : rs.all (fun r => !Nat.beq (slotOf r) d) = true) : PanOk1 (DPan P fn R) d := fun c a v w h => leaves_congr (results_put hr hd) _ _ _ h
/-- What a call that was put off leaves. -/
def Aft (P : Program) (l : Env) (rs : List ResultVar) (R : Ending → World → Prop) (e : Ending) (u' : FrameMode) (w' : World) : Prop := ∃ v, e = .returned v ∧ settle u' = .returning ∧ ∃ vs, Rs P l w' rs vs ∧ R (.returned (tupleOf vs)) w'
theorem leaves1 {d : Deferred} {f : FuncId} {cs : List Value} {rs : List ResultVar} {u : FrameMode} {a : Act} (hu : u ≠ .run) (h1 : d.target = .fn (.func f) cs.toArray) (h2 : d.args = #[]) (hr : fn.results = rs.toArray)
    (hcall : ∀ (args : Array Value) (w : World), (callFunc f args).run P w = .ok (.enter f args) w) (hF : Fr n [d] l a) (hc : CallsD P f cs.toArray u w (Aft P l rs R)) : Leaves P fn a.tmps R a.defers u w := by
  rw [hF.defs]
  obtain ⟨t, as⟩ := d
  simp only at h1 h2
  subst h1; subst h2
  refine leaves_cons (f := f) (args := cs.toArray) hu (by simp [invoke, hcall]) (hc.mono fun e u' w' h => ?_)
  obtain ⟨v, rfl, hs, vs, hv, hR⟩ := h
  show Leaves P fn a.tmps R [] (settle u') w'
  rw [hs]
  exact ⟨_, hv.results hF hr, hR⟩
theorem C.dret1 {d : Deferred} {f : FuncId} {cs : List Value} {rs : List ResultVar} (h1 : d.target = .fn (.func f) cs.toArray) (h2 : d.args = #[]) (hr : fn.results = rs.toArray)
    (hcall : ∀ (args : Array Value) (w : World), (callFunc f args).run P w = .ok (.enter f args) w) (hc : CallsD P f cs.toArray .returning w (Aft P l rs R)) : C n [d] (DRet P fn R) l w := fun a hF => leaves1 (by simp) h1 h2 hr hcall hF hc
theorem C.dpan1 {d : Deferred} {f : FuncId} {cs : List Value} {rs : List ResultVar} {ch : List PanicEntry} (h1 : d.target = .fn (.func f) cs.toArray) (h2 : d.args = #[]) (hr : fn.results = rs.toArray)
    (hcall : ∀ (args : Array Value) (w : World), (callFunc f args).run P w = .ok (.enter f args) w) (hc : CallsD P f cs.toArray (.panicking ch) w (Aft P l rs R)) : C n [d] (DPan P fn R ch) l w := fun a hF => leaves1 (by simp) h1 h2 hr hcall hF hc
end
end Go.FL
