/- Structs of a text and a number: equal, as keys of maps. No project text. -/
import Derived.Test.YtclokcmgigdjlaaDoorFlK
import Derived.Laws.StructEq
set_option linter.unusedSimpArgs false
set_option linter.unusedVariables false
namespace Go.FL
open Go.RowKit
/-- t is a struct of a text and a number. -/
structure SI (P : Program) (t : TypeId) (f g : Field) : Prop where
  u : P.underlying t = some (.struct #[f, g])
  held : P.stoodInHeld t = false
  fn : f.name ≠ "_"
  gn : g.name ≠ "_"
  f0 : f.offset = 0
  g1 : g.offset = 1
  fu : P.underlying f.type = some .string
  gu : P.underlying g.type = some (.int .i64)
  fa : ∀ w, (isAgg f.type).run P w = .ok false w
  ga : ∀ w, (isAgg g.type).run P w = .ok false w
def siv (a : ByteArray) (x : Int) : Value := .agg #[.string a, .int .i64 x]
section
variable {P : Program} {l : Env} {w : World} {o : Oper} {t : TypeId} {f g : Field} {a b : ByteArray} {x y : Int}
theorem bytes_beq (a b : ByteArray) : (a == b) = decide (a = b) := by
  cases a with | mk x => cases b with | mk y =>
  have h : ((⟨x⟩ : ByteArray) == ⟨y⟩) = (x == y) := rfl
  rw [h, Bool.eq_iff_iff, beq_iff_eq, decide_eq_true_iff]
  exact ⟨fun e => by rw [e], fun e => by injection e⟩
theorem equalIn_str {d : Nat} {t : TypeId} (hu : P.underlying t = some .string) : (Op.equalIn (d + 1) t (.string a) (.string b)).run P w = .ok (decide (a = b)) w := by
  simp only [Op.equalIn, run_underlying hu, Sem.run_bind, Result.andThen_ok, Sem.run_pure]
  congr 1
  exact bytes_beq a b
theorem equalIn_int {d : Nat} {t : TypeId} {k : IntKind} (hu : P.underlying t = some (.int k)) : (Op.equalIn (d + 1) t (.int k x) (.int k y)).run P w = .ok (decide (x = y)) w := by
  simp [Op.equalIn, run_underlying hu]
  rfl
theorem equalIn_si {d : Nat} (h : SI P t f g) : (Op.equalIn (d + 2) t (siv a x) (siv b y)).run P w = .ok (decide (a = b) && decide (x = y)) w := by
  have hf : P.fieldsOf t = #[f, g] := by simp [Program.fieldsOf, h.u]
  unfold siv
  rw [run_equalIn_struct (P := P) w (d + 1) t _ _ (by rw [hf]; exact h.u) h.held, hf]
  have p1 : ∀ (s : ByteArray) (z : Int) (w : World), (part f.type #[.string s, .int .i64 z] f.offset).run P w = .ok (.string s) w := fun s z w => by simp [part, h.fa, h.f0]
  have p2 : ∀ (s : ByteArray) (z : Int) (w : World), (part g.type #[.string s, .int .i64 z] g.offset).run P w = .ok (.int .i64 z) w := fun s z w => by simp [part, h.ga, h.g1]
  simp only [Op.eqFields, if_pos h.fn, if_pos h.gn, Sem.run_bind, p1, p2, Result.andThen_ok, equalIn_str h.fu, equalIn_int h.gu]
  by_cases hab : a = b
  · by_cases hxy : x = y <;> simp [hab, hxy, p1, p2, equalIn_int h.gu]
  · simp [hab]
theorem equal_si (h : SI P t f g) : (Op.equal t (siv a x) (siv b y)).run P w = .ok (decide (a = b) && decide (x = y)) w := equalIn_si (d := 9998) h
theorem checkKey_si (h : SI P t f g) (e : Bool) : (Instr.checkKey e 10000 t (siv a x)).run P w = .ok () w := by
  show (Instr.checkKey e (9998 + 1 + 1) t (siv a x)).run P w = _
  generalize 9998 = d
  unfold siv
  simp [Instr.checkKey, run_underlying h.u, run_underlying h.fu, run_underlying h.gu, h.fn, h.gn, part, h.fa, h.ga, h.f0, h.g1]
end
section
variable {P : Program} {l : Env} {w : World} {o : Oper} {t u : TypeId} {f g : Field} {a b : ByteArray} {x y : Int}
theorem guardSI {op : BinOp} {p q : Operand} (hq : P.eqGuardType P.depth t = false) : (eqGuard op t p q (siv a x) (siv b y)).run P w = .ok () w := by
  unfold siv
  cases op <;> simp [eqGuard, hq]
theorem r_eqlSI {p q : Operand} (ho : o.op = .binOp .eql t p q u) (hx : ev l p = some (siv a x)) (hy : ev l q = some (siv b y)) (h : SI P t f g) (hq : P.eqGuardType P.depth t = false) : Run P o l w (.bool (decide (a = b) && decide (x = y))) w := fun ρ hρ => by
  simp only [execOp, ho, hρ p _ hx, hρ q _ hy, Sem.run_bind, guardSI hq, Result.andThen_ok]
  have he := equal_si (w := w) (a := a) (b := b) (x := x) (y := y) h
  unfold siv at he ⊢
  simp [binOp, he]
theorem r_neqSI {p q : Operand} (ho : o.op = .binOp .neq t p q u) (hx : ev l p = some (siv a x)) (hy : ev l q = some (siv b y)) (h : SI P t f g) (hq : P.eqGuardType P.depth t = false) : Run P o l w (.bool (!(decide (a = b) && decide (x = y)))) w := fun ρ hρ => by
  simp only [execOp, ho, hρ p _ hx, hρ q _ hy, Sem.run_bind, guardSI hq, Result.andThen_ok]
  have he := equal_si (w := w) (a := a) (b := b) (x := x) (y := y) h
  unfold siv at he ⊢
  simp [binOp, he]
/-! ### Maps with such keys -/
def entsS : List (ByteArray × Int × Value) → Nat → List MapEntry
  | [], _ => []
  | (a, x, v) :: r, i => { key := siv a x, val := v, born := i } :: entsS r (i + 1)
def lookS : List (ByteArray × Int × Value) → ByteArray → Int → Option Value
  | [], _, _ => none
  | (a, x, v) :: r, b, y => if b = a ∧ y = x then some v else lookS r b y
def MpS (w : World) (b : Nat) (l : List (ByteArray × Int × Value)) : Prop := w.heap[b]? = some (.map (entsS l 0).toArray l.length)
theorem MpS.ext {w w' : World} {b : Nat} {l : List (ByteArray × Int × Value)} (h : MpS w b l) (hE : Ext w w') : MpS w' b l := hE.heap h
theorem MpS.kp {w w' : World} {b : Nat} {l : List (ByteArray × Int × Value)} {X : Nat → Prop} (h : MpS w b l) (hK : Kp X w w') (hx : ¬ X b) : MpS w' b l := hK.heap h hx
theorem MpS.lt {w : World} {b : Nat} {l : List (ByteArray × Int × Value)} (h : MpS w b l) : b < w.heap.size := blk_lt h
theorem MpS.of {w : World} {b : Nat} (h : w.heap[b]? = some (.map #[] 0)) : MpS w b [] := h
theorem findAsking_ents (h : SI P t f g) : ∀ (es : List (ByteArray × Int × Value)) (i j : Nat), ∃ n, (Instr.findAsking t (siv a x) (entsS es i) j).run P w = .ok ((lookS es a x).map fun v => (n, v)) w
  | [], i, j => ⟨0, by simp [entsS, Instr.findAsking, lookS]⟩
  | (b, y, v) :: r, i, j => by
    obtain ⟨n, hn⟩ := findAsking_ents h r (i + 1) (j + 1)
    by_cases hb : a = b ∧ x = y
    · obtain ⟨rfl, rfl⟩ := hb
      exact ⟨j, by simp [entsS, Instr.findAsking, lookS, equal_si h]⟩
    · refine ⟨n, ?_⟩
      have hd : (decide (a = b) && decide (x = y)) = false := by
        rw [← Bool.decide_and]; exact decide_eq_false hb
      simp only [entsS, Instr.findAsking, lookS, Sem.run_bind, equal_si h, Result.andThen_ok, hd, if_neg hb]
      simpa using hn
theorem findKey_ents' (h : SI P t f g) (es : List (ByteArray × Int × Value)) : ∃ n, (Instr.findKey t (siv a x) (entsS es 0)).run P w = .ok ((lookS es a x).map fun v => (n, v)) w := by
  cases es with
  | nil => exact ⟨0, by simp [Instr.findKey, run_underlying h.u, entsS, Instr.findNow, lookS]⟩
  | cons e r =>
    obtain ⟨b, y, v⟩ := e
    obtain ⟨n, hn⟩ := findAsking_ents (P := P) (w := w) (a := a) (x := x) h ((b, y, v) :: r) 0 0
    refine ⟨n, ?_⟩
    rw [← hn]
    simp [Instr.findKey, run_underlying h.u, entsS, Instr.findNow, Instr.sameNow]
theorem r_lookupS {kt et : TypeId} {m p : Operand} {b : Nat} {es : List (ByteArray × Int × Value)} {z : Value} (ho : o.op = .lookup t m p false) (hm : ev l m = some (.map (some b))) (hx : ev l p = some (siv a x))
    (ht : P.underlying t = some (.map kt et)) (h : SI P kt f g) (hz : ∀ w, (zeroValue et).run P w = .ok z w) (hM : MpS w b es) : Run P o l w ((lookS es a x).getD z) w := fun ρ hρ => by
  obtain ⟨n, hn⟩ := findKey_ents' (P := P) (w := w) (a := a) (x := x) h es
  have hM' : w.heap[b]? = some (.map (entsS es 0).toArray es.length) := hM
  have hg : (getObj b).run P w = .ok (.map (entsS es 0).toArray es.length) w := by simp [getObj, Sem.run, hM']
  simp only [execOp, ho, hρ m _ hm, hρ p _ hx, Sem.run_bind, Instr.lookup, run_underlying ht, Result.andThen_ok, hg, Sem.run_pure, checkKey_si h, hn]
  cases hl : lookS es a x with
  | none => simp [hz]
  | some v => simp
theorem entsS_push (a : ByteArray) (x : Int) (v : Value) : ∀ (es : List (ByteArray × Int × Value)) (i : Nat), entsS (es ++ [(a, x, v)]) i = entsS es i ++ [{ key := siv a x, val := v, born := i + es.length }]
  | [], i => by simp [entsS]
  | (b, y, u) :: r, i => by simp [entsS, entsS_push a x v r (i + 1)]; omega
theorem SQ.updateS {n : Nat} {ds : List Deferred} {k : Ks} {ops : Array Oper} {rest : List Oper} {kt et : TypeId} {m p q : Operand} {b : Nat} {v : Value} {es : List (ByteArray × Int × Value)}
    (ho : o.op = .mapUpdate t m p q) (hg : o.guard = none) (hd : o.dst = none) (hm : ev l m = some (.map (some b))) (hx : ev l p = some (siv a x)) (hy : ev l q = some v)
    (ht : P.underlying t = some (.map kt et)) (h : SI P kt f g) (hM : MpS w b es) (hno : lookS es a x = none)
    (hh : ∀ w', MpS w' b (es ++ [(a, x, v)]) → Kp (fun c => c = b) w w' → SQ P ops n ds k rest l w') : SQ P ops n ds k (o :: rest) l w := by
  obtain ⟨m', hn⟩ := findKey_ents' (P := P) (w := w) (a := a) (x := x) h es
  have hM' : w.heap[b]? = some (.map (entsS es 0).toArray es.length) := hM
  have hb : b < w.heap.size := blk_lt hM'
  have hgo : (getObj b).run P w = .ok (.map (entsS es 0).toArray es.length) w := by simp [getObj, Sem.run, hM']
  rw [hno] at hn
  refine SQ.op0 (w' := { w with heap := w.heap.setIfInBounds b (.map (entsS (es ++ [(a, x, v)]) 0).toArray (es.length + 1)) }) hg hd (fun ρ hρ => ?_) (hh _ ?_ ?_)
  · simp only [execOp, ho, hρ m _ hm, hρ p _ hx, hρ q _ hy, Sem.run_bind, Instr.mapUpdate, run_underlying ht, Result.andThen_ok, hgo, checkKey_si h, hn, Option.map_none]
    simp [setObj, Sem.run, entsS_push, hM']
  · show (w.heap.setIfInBounds b _)[b]? = _
    rw [Array.getElem?_setIfInBounds_self_of_lt hb]
    simp
  · exact ⟨rfl, rfl, rfl, by simp, fun c _ hx => Array.getElem?_setIfInBounds_ne (fun e => hx e.symm)⟩
end
section
variable {P : Program} {n : Nat} {ds : List Deferred} {l : Env} {w : World} {ops : Array Oper} {o : Oper} {S : World → Prop} {fuel : Nat} {listed : Array Bool} {nrm : Kont} {exs gts : List (Nat × Kont)} {rt : Kont} {pn : List PanicEntry → Kont} {ot : Kont}
theorem AH.takeD {d : Nat} {b : Bool} (c : Bool) (i : Nat) (hi : opAt ops i = some o) (hs : Region.noSelect ops = true) (hf : Region.free .any ops listed i = true) (hr : (Region.ready .any ops listed).contains i = true) (hp : PanOk1 pn d)
    (hg : o.guard = none) (hd : o.dst = some d) (hn : Nat.blt d n = true) (hS : S w) (hR : ∀ w', S w' → Run P o l w' (.bool b) w') (hb : b = c) (h : AH P ops n ds S ⟨nrm, exs, gts, rt, pn, ot⟩ fuel (listed.setIfInBounds i true) ((d, .bool c) :: l) w) :
    AH P ops n ds S ⟨nrm, exs, gts, rt, pn, ot⟩ (fuel + 1) listed l w := by subst hb; exact AH.take i hi hs hf hr hp hg hd hn hS hR h
theorem AH.takeGD {d j dj : Nat} {b want : Bool} {oj : Oper} {b' : Bool} (c : Bool) (i : Nat) (hi : opAt ops i = some o) (hs : Region.noSelect ops = true) (hf : Region.free .any ops listed i = true) (hr : (Region.ready .any ops listed).contains i = true) (hp : PanOk1 pn d)
    (hg : o.guard = some (j, want)) (hj : ops[j]? = some oj) (hdj : oj.dst = some dj) (hv : lk l dj = some (.bool b)) (hbw : (b == want) = true)
    (hd : o.dst = some d) (hn : Nat.blt d n = true) (hS : S w) (hR : ∀ w', S w' → Run P o l w' (.bool b') w') (hb : b' = c) (h : AH P ops n ds S ⟨nrm, exs, gts, rt, pn, ot⟩ fuel (listed.setIfInBounds i true) ((d, .bool c) :: l) w) :
    AH P ops n ds S ⟨nrm, exs, gts, rt, pn, ot⟩ (fuel + 1) listed l w := by subst hb; exact AH.takeG i hi hs hf hr hp hg hj hdj hv hbw hd hn hS hR h
end
end Go.FL
