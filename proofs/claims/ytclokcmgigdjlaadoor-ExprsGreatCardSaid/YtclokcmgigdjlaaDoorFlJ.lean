/- Maps of small keys, labels with a measure, equal structs. No project text. -/
import Derived.Test.YtclokcmgigdjlaaDoorFlI
set_option linter.unusedSimpArgs false
set_option linter.unusedVariables false
namespace Go.FL
open Go.RowKit
/-! ### Maps with whole-number keys -/
def entsI (kd : IntKind) : List (Int × Value) → Nat → List MapEntry
  | [], _ => []
  | (k, v) :: r, i => { key := .int kd k, val := v, born := i } :: entsI kd r (i + 1)
def lookI : List (Int × Value) → Int → Option Value
  | [], _ => none
  | (k, v) :: r, x => if x = k then some v else lookI r x
/-- A map of the call's own. -/
def MpI (w : World) (b : Nat) (kd : IntKind) (l : List (Int × Value)) : Prop := w.heap[b]? = some (.map (entsI kd l 0).toArray l.length)
theorem MpI.ext {w w' : World} {b : Nat} {kd : IntKind} {l : List (Int × Value)} (h : MpI w b kd l) (hE : Ext w w') : MpI w' b kd l := hE.heap h
theorem MpI.kp {w w' : World} {b : Nat} {kd : IntKind} {l : List (Int × Value)} {X : Nat → Prop} (h : MpI w b kd l) (hK : Kp X w w') (hx : ¬ X b) : MpI w' b kd l := hK.heap h hx
theorem MpI.lt {w : World} {b : Nat} {kd : IntKind} {l : List (Int × Value)} (h : MpI w b kd l) : b < w.heap.size := blk_lt h
theorem MpI.of {w : World} {b : Nat} (kd : IntKind) (h : w.heap[b]? = some (.map #[] 0)) : MpI w b kd [] := h
section
variable {P : Program} {l : Env} {w : World} {o : Oper}
theorem checkKey_int {t : TypeId} {kd k : IntKind} {a : Int} {e : Bool} (ht : P.underlying t = some (.int kd)) : (Instr.checkKey e 10000 t (.int k a)).run P w = .ok () w := by
  show (Instr.checkKey e (9999 + 1) t (.int k a)).run P w = _
  generalize 9999 = d
  simp [Instr.checkKey, run_underlying ht]
theorem findNow_ents {kd : IntKind} {k : Int} : ∀ (l : List (Int × Value)) (i j : Nat), ∃ n, Instr.findNow (.int kd) (.int kd k) (entsI kd l i) j = some ((lookI l k).map fun v => (n, v))
  | [], i, j => ⟨0, by simp [entsI, Instr.findNow, lookI]⟩
  | (k', v) :: r, i, j => by
    obtain ⟨n, hn⟩ := findNow_ents (kd := kd) (k := k) r (i + 1) (j + 1)
    by_cases h : k = k'
    · subst h; exact ⟨j, by simp [entsI, Instr.findNow, Instr.sameNow, lookI]⟩
    · have hb : (k == k') = false := by simpa using h
      exact ⟨n, by simp [entsI, Instr.findNow, Instr.sameNow, lookI, h, hn, hb]⟩
theorem findKey_ents {t : TypeId} {kd : IntKind} {k : Int} (ht : P.underlying t = some (.int kd)) (l : List (Int × Value)) : ∃ n, (Instr.findKey t (.int kd k) (entsI kd l 0)).run P w = .ok ((lookI l k).map fun v => (n, v)) w := by
  obtain ⟨n, hn⟩ := findNow_ents (kd := kd) (k := k) l 0 0
  exact ⟨n, by simp [Instr.findKey, run_underlying ht, hn]⟩
theorem r_lookupI {t kt et : TypeId} {m x : Operand} {b : Nat} {kd : IntKind} {k : Int} {es : List (Int × Value)} {z : Value} (ho : o.op = .lookup t m x true) (hm : ev l m = some (.map (some b))) (hx : ev l x = some (.int kd k))
    (ht : P.underlying t = some (.map kt et)) (hk : P.underlying kt = some (.int kd)) (hz : ∀ w, (zeroValue et).run P w = .ok z w) (hM : MpI w b kd es) :
    Run P o l w (.tuple #[(lookI es k).getD z, .bool (lookI es k).isSome]) w := fun ρ hρ => by
  obtain ⟨n, hn⟩ := findKey_ents (P := P) (w := w) (k := k) hk es
  have hM' : w.heap[b]? = some (.map (entsI kd es 0).toArray es.length) := hM
  have hg : (getObj b).run P w = .ok (.map (entsI kd es 0).toArray es.length) w := by simp [getObj, Sem.run, hM']
  simp only [execOp, ho, hρ m _ hm, hρ x _ hx, Sem.run_bind, Instr.lookup, run_underlying ht, Result.andThen_ok, hg, Sem.run_pure, checkKey_int hk, hn]
  cases hl : lookI es k with
  | none => simp [hz]
  | some v => simp
theorem entsI_push (kd : IntKind) (k : Int) (v : Value) : ∀ (l : List (Int × Value)) (i : Nat), entsI kd (l ++ [(k, v)]) i = entsI kd l i ++ [{ key := .int kd k, val := v, born := i + l.length }]
  | [], i => by simp [entsI]
  | (k', u) :: r, i => by simp [entsI, entsI_push kd k v r (i + 1)]; omega
theorem SQ.insertI {n : Nat} {ds : List Deferred} {k : Ks} {ops : Array Oper} {rest : List Oper} {t kt et : TypeId} {m x y : Operand} {b : Nat} {kd : IntKind} {q : Int} {v : Value} {es : List (Int × Value)}
    (ho : o.op = .insert t m x y) (hg : o.guard = none) (hd : o.dst = none) (hm : ev l m = some (.map (some b))) (hx : ev l x = some (.int kd q)) (hy : ev l y = some v)
    (ht : P.underlying t = some (.map kt et)) (hk : P.underlying kt = some (.int kd)) (hM : MpI w b kd es) (hno : lookI es q = none)
    (h : ∀ w', MpI w' b kd (es ++ [(q, v)]) → Kp (fun c => c = b) w w' → SQ P ops n ds k rest l w') : SQ P ops n ds k (o :: rest) l w := by
  obtain ⟨m', hn⟩ := findKey_ents (P := P) (w := w) (k := q) hk es
  have hM' : w.heap[b]? = some (.map (entsI kd es 0).toArray es.length) := hM
  have hb : b < w.heap.size := blk_lt hM'
  have hgo : (getObj b).run P w = .ok (.map (entsI kd es 0).toArray es.length) w := by simp [getObj, Sem.run, hM']
  rw [hno] at hn
  refine SQ.op0 (w' := { w with heap := w.heap.setIfInBounds b (.map (entsI kd (es ++ [(q, v)]) 0).toArray (es.length + 1)) }) hg hd (fun ρ hρ => ?_) (h _ ?_ ?_)
  · simp only [execOp, ho, hρ m _ hm, hρ x _ hx, hρ y _ hy, Sem.run_bind, Instr.mapUpdate, run_underlying ht, Result.andThen_ok, hgo, checkKey_int hk, hn, Option.map_none]
    simp [setObj, Sem.run, entsI_push, hM']
  · show (w.heap.setIfInBounds b _)[b]? = _
    rw [Array.getElem?_setIfInBounds_self_of_lt hb]
    simp
  · exact ⟨rfl, rfl, rfl, by simp, fun c _ hx => Array.getElem?_setIfInBounds_ne (fun e => hx e.symm)⟩
end
/-! ### A scope in which the run jumps back to one label -/
theorem W.gts_mono {P : Program} {n : Nat} {ds : List Deferred} {c : Code} {nrm : Kont} {exs : List (Nat × Kont)} {i : Nat} {g g' : Kont} {rt : Kont} {pn : List PanicEntry → Kont} {ot : Kont} {l : Env} {w : World} (hg : ∀ a w, g a w → g' a w)
    (h : W P n ds c ⟨nrm, exs, [(i, g)], rt, pn, ot⟩ l w) : W P n ds c ⟨nrm, exs, [(i, g')], rt, pn, ot⟩ l w := fun a hF => Code.wp_mono (fun e a w q => by
  cases e with
  | goto j =>
    obtain ⟨c, hc, hq⟩ := q
    simp only [lkE_cons] at hc
    by_cases e : i = j
    · subst e; rw [if_pos rfl] at hc; cases hc; exact ⟨g', by simp [lkE_cons], hg _ _ hq⟩
    · rw [if_neg e] at hc; simp [lkE] at hc
  | normal => exact q
  | exit id => exact q
  | ret => exact q
  | panic c => exact q
  | outgrown => exact q) (h a hF)
theorem W.scopeK {P : Program} {n : Nat} {ds : List Deferred} {l : Env} {w : World} {nrm : Kont} {exs gts : List (Nat × Kont)} {rt : Kont} {pn : List PanicEntry → Kont} {ot : Kont} {α : Type} {c rest : Code} (i : Nat) (env : α → Env) (I : α → World → Prop) (μ : α → Nat) (hf : findLabel c i = some rest)
    (pass : ∀ x w, I x w → W P n ds rest ⟨nrm, exs, [(i, Rnd n ds env I μ x)], rt, pn, ot⟩ (env x) w)
    (first : (∀ x w, I x w → W P n ds rest ⟨nrm, exs, [(i, Mid n ds env I)], rt, pn, ot⟩ (env x) w) → W P n ds c ⟨nrm, exs, [(i, Mid n ds env I)], rt, pn, ot⟩ l w) : W P n ds (.scope c) ⟨nrm, exs, gts, rt, pn, ot⟩ l w :=
  W.scopeJ i env I μ hf (first fun x w h => W.gts_mono (fun a w ⟨x', hF, hI, _⟩ => ⟨x', hF, hI⟩) (pass x w h)) pass
theorem W.scopeS {P : Program} {n : Nat} {ds : List Deferred} {l : Env} {w : World} {nrm : Kont} {exs gts : List (Nat × Kont)} {rt : Kont} {pn : List PanicEntry → Kont} {ot : Kont} {α : Type} {c X : Code} (i : Nat) (env : α → Env) (I : α → World → Prop) (μ : α → Nat) (hf : findLabel c i = some (.seq .skip X))
    (pass : ∀ x w, I x w → W P n ds X ⟨nrm, exs, [(i, Rnd n ds env I μ x)], rt, pn, ot⟩ (env x) w)
    (first : (∀ x w, I x w → W P n ds X ⟨nrm, exs, [(i, Mid n ds env I)], rt, pn, ot⟩ (env x) w) → W P n ds c ⟨nrm, exs, [(i, Mid n ds env I)], rt, pn, ot⟩ l w) : W P n ds (.scope c) ⟨nrm, exs, gts, rt, pn, ot⟩ l w :=
  W.scopeJ i env I μ hf (first fun x w h => W.gts_mono (fun a w ⟨x', hF, hI, _⟩ => ⟨x', hF, hI⟩) (pass x w h)) (fun x w h => W.seq (W.skip (C.code (pass x w h))))
end Go.FL
