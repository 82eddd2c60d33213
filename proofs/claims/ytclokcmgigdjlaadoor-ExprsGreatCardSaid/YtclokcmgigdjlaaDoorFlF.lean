/- A small logic of my own over the model's wp: frames as lists of known slots, worlds as variables. No project text. -/
import Derived.WalkKit
import Derived.WalkSpells
import Derived.WalkLawsBesides
import Derived.Deep.Quiet
import Derived.OrdersHeld
import Derived.Deep.AppendLies
set_option linter.unusedVariables false
set_option linter.unusedSimpArgs false
namespace Go.FL
open Go.RowKit

abbrev Env := List (Nat × Value)
/-- The first entry of a slot. -/
def lk : Env → Nat → Option Value
  | [], _ => none
  | (k, v) :: l, t => bif Nat.beq k t then some v else lk l t
def ev (l : Env) : Operand → Option Value
  | .tmp t => lk l t
  | .const v => some v
  | .global g => some (.pointer (some ⟨g, 0, none⟩))
  | .func f => some (.func (.func f) #[] #[])
def Agree (ρ : Operand → Value) (l : Env) : Prop := ∀ x v, ev l x = some v → ρ x = v
structure Fr (n : Nat) (ds : List Deferred) (l : Env) (a : Act) : Prop where
  size : a.tmps.size = n
  defs : a.defers = ds
  get : ∀ t v, lk l t = some v → a.tmps[t]? = some v
theorem Fr.agree {n : Nat} {ds : List Deferred} {l : Env} {a : Act} (h : Fr n ds l a) : Agree a.eval l := by
  intro x v hx
  cases x with
  | tmp t => simp [Act.eval, Array.getD_eq_getD_getElem?, h.get t v hx]
  | const c => simpa [ev, Act.eval] using hx
  | global g => simpa [ev, Act.eval] using hx
  | func f => simpa [ev, Act.eval] using hx
theorem lk_cons (k t : Nat) (v : Value) (l : Env) : lk ((k, v) :: l) t = if k = t then some v else lk l t := by
  show (bif Nat.beq k t then some v else lk l t) = _
  by_cases h : k = t
  · subst h; simp
  · have : Nat.beq k t = false := by
      cases hb : Nat.beq k t with
      | false => rfl
      | true => exact absurd (Nat.eq_of_beq_eq_true hb) h
    rw [this, if_neg h]; rfl
theorem Fr.put {n : Nat} {ds : List Deferred} {l : Env} {a : Act} (h : Fr n ds l a) {d : Nat} (hd : Nat.blt d n = true) (v : Value) : Fr n ds ((d, v) :: l) (a.put (some d) v) := by
  have hd' : d < n := by simpa using hd
  refine ⟨by simp [Act.put, h.size], h.defs, fun t u hu => ?_⟩
  rw [lk_cons] at hu
  show (a.tmps.setIfInBounds d v)[t]? = some u
  by_cases e : d = t
  · subst e; rw [if_pos rfl] at hu
    rw [Array.getElem?_setIfInBounds_self_of_lt (by rw [h.size]; exact hd')]; exact hu
  · rw [if_neg e] at hu; rw [Array.getElem?_setIfInBounds_ne e]; exact h.get t u hu
theorem Fr.put_none {n : Nat} {ds : List Deferred} {l : Env} {a : Act} (h : Fr n ds l a) (v : Value) : Fr n ds l (a.put none v) := h
/-- A list's place; what stands there by sight. -/
def nth : List Value → Nat → Option Value
  | [], _ => none
  | x :: _, 0 => some x
  | _ :: r, n + 1 => nth r n
theorem nth_eq : ∀ (l : List Value) (i : Nat), nth l i = l[i]?
  | [], _ => by simp [nth]
  | _ :: _, 0 => by simp [nth]
  | _ :: r, n + 1 => by simp [nth, nth_eq r n]
/-- A place turned, written out. -/
def updK : List Value → Nat → Value → (List Value → Option (List Value)) → Option (List Value)
  | [], _, _, _ => none
  | _ :: r, 0, v, k => k (v :: r)
  | x :: r, n + 1, v, k => updK r n v fun r' => k (x :: r')
theorem updK_eq : ∀ (l : List Value) (i : Nat) (v : Value) (k) (r), updK l i v k = some r → i < l.length ∧ k (l.set i v) = some r
  | [], _, _, _, _, h => by simp [updK] at h
  | _ :: _, 0, _, _, _, h => by simpa [updK] using h
  | x :: l, n + 1, v, k, r, h => by
    obtain ⟨h1, h2⟩ := updK_eq l n v _ r h
    exact ⟨by simp; omega, by simpa using h2⟩
/-- Places from i on, so many, written out. -/
def subK : List Value → Nat → Nat → (List Value → Option (List Value)) → Option (List Value)
  | _, 0, 0, k => k []
  | x :: r, 0, m + 1, k => subK r 0 m fun r' => k (x :: r')
  | _ :: r, i + 1, m, k => subK r i m k
  | [], _, _, _ => none
theorem subK_eq : ∀ (l : List Value) (i m : Nat) (k) (r), subK l i m k = some r → i + m ≤ l.length ∧ k ((l.drop i).take m) = some r
  | l, 0, 0, k, r, h => by
    cases l <;> exact ⟨by simp, by simpa [subK] using h⟩
  | x :: l, 0, m + 1, k, r, h => by
    obtain ⟨h1, h2⟩ := subK_eq l 0 m _ r h
    exact ⟨by simp; omega, by simpa using h2⟩
  | x :: l, i + 1, m, k, r, h => by
    have h' : subK l i m k = some r := by simpa [subK] using h
    obtain ⟨h1, h2⟩ := subK_eq l i m _ r h'
    exact ⟨by simp; omega, by simpa using h2⟩
  | [], 0, m + 1, _, _, h => by simp [subK] at h
  | [], i + 1, _, _, _, h => by simp [subK] at h
/-- l' says no more than l. -/
def Sub : Env → Env → Prop
  | [], _ => True
  | (t, v) :: r, l => lk l t = some v ∧ Sub r l
theorem Sub.lk {l' l : Env} (h : Sub l' l) : ∀ t v, FL.lk l' t = some v → FL.lk l t = some v := by
  induction l' with
  | nil => intro t v hv; simp [FL.lk] at hv
  | cons p r ih =>
    obtain ⟨k, u⟩ := p
    intro t v hv
    rw [lk_cons] at hv
    by_cases e : k = t
    · subst e; rw [if_pos rfl] at hv; cases hv; exact h.1
    · rw [if_neg e] at hv; exact ih h.2 t v hv
theorem Fr.sub {n : Nat} {ds : List Deferred} {l l' : Env} {a : Act} (h : Fr n ds l a) (hs : Sub l' l) : Fr n ds l' a := ⟨h.size, h.defs, fun t v hv => h.get t v (hs.lk t v hv)⟩

/-! ### Continuations -/
abbrev Kont := Act → World → Prop
structure Ks where
  nrm : Kont
  ex : List (Nat × Kont)
  gt : List (Nat × Kont)
  ret : Kont
  pan : List PanicEntry → Kont
  out : Kont
theorem addr_add (b o k : Nat) : (⟨b, o, none⟩ : Addr).add k = ⟨b, o + k, none⟩ := by unfold Addr.add; split <;> simp_all
def lkE : List (Nat × Kont) → Nat → Option Kont
  | [], _ => none
  | (k, v) :: l, t => bif Nat.beq k t then some v else lkE l t
theorem lkE_cons (k t : Nat) (v : Kont) (l) : lkE ((k, v) :: l) t = if k = t then some v else lkE l t := by
  show (bif Nat.beq k t then some v else lkE l t) = _
  by_cases h : k = t
  · subst h; simp
  · have : Nat.beq k t = false := by
      cases hb : Nat.beq k t with
      | false => rfl
      | true => exact absurd (Nat.eq_of_beq_eq_true hb) h
    rw [this, if_neg h]; rfl
def Ks.Q (k : Ks) : Exit → Act → World → Prop
  | .normal, a, w => k.nrm a w
  | .exit id, a, w => ∃ c, lkE k.ex id = some c ∧ c a w
  | .goto l, a, w => ∃ c, lkE k.gt l = some c ∧ c a w
  | .ret, a, w => k.ret a w
  | .panic ch, a, w => k.pan ch a w
  | .outgrown, a, w => k.out a w
/-- The code, from any frame that holds what l says. -/
def W (P : Program) (n : Nat) (ds : List Deferred) (c : Code) (k : Ks) (l : Env) (w : World) : Prop := ∀ a, Fr n ds l a → c.wp P k.Q a w
/-- A continuation, from any frame that holds what l says. -/
def C (n : Nat) (ds : List Deferred) (k : Kont) (l : Env) (w : World) : Prop := ∀ a, Fr n ds l a → k a w
section
variable {P : Program} {n : Nat} {ds : List Deferred} {nrm : Kont} {exs gts : List (Nat × Kont)} {rt : Kont} {pn : List PanicEntry → Kont} {ot : Kont} {l : Env} {w : World}
theorem W.seq {x y : Code} (h : W P n ds x ⟨fun a w => y.wp P (Ks.Q ⟨nrm, exs, gts, rt, pn, ot⟩) a w, exs, gts, rt, pn, ot⟩ l w) : W P n ds (x.seq y) ⟨nrm, exs, gts, rt, pn, ot⟩ l w :=
  fun a hF => wp_seq (Code.wp_mono (fun e a w q => by cases e <;> exact q) (h a hF))
theorem C.code {y : Code} {k : Ks} (h : W P n ds y k l w) : C n ds (fun a w => y.wp P k.Q a w) l w := h
theorem W.skip (h : C n ds nrm l w) : W P n ds .skip ⟨nrm, exs, gts, rt, pn, ot⟩ l w := fun a hF => wp_skip (h a hF)
theorem W.ret (h : C n ds rt l w) : W P n ds .ret ⟨nrm, exs, gts, rt, pn, ot⟩ l w := fun a hF => wp_ret (h a hF)
theorem W.label {i : Nat} (h : C n ds nrm l w) : W P n ds (.label i) ⟨nrm, exs, gts, rt, pn, ot⟩ l w := fun a hF => wp_label (h a hF)
theorem W.exit {id : Nat} {c : Kont} (hc : lkE exs id = some c) (h : C n ds c l w) : W P n ds (.exit id) ⟨nrm, exs, gts, rt, pn, ot⟩ l w := fun a hF => wp_exit ⟨c, hc, h a hF⟩
theorem W.goto {i : Nat} {c : Kont} (hc : lkE gts i = some c) (h : C n ds c l w) : W P n ds (.goto i) ⟨nrm, exs, gts, rt, pn, ot⟩ l w := fun a hF => wp_goto ⟨c, hc, h a hF⟩
theorem W.cond {x : Operand} {t e : Code} {b : Bool} {k : Ks} (hx : ev l x = some (.bool b)) (ht : b = true → W P n ds t k l w) (he : b = false → W P n ds e k l w) : W P n ds (.cond x t e) k l w :=
  fun a hF => wp_cond_split (hF.agree _ _ hx) (fun hb => ht hb a hF) (fun hb => he hb a hF)
theorem W.cond_t {x : Operand} {t e : Code} {k : Ks} (hx : ev l x = some (.bool true)) (ht : W P n ds t k l w) : W P n ds (.cond x t e) k l w :=
  fun a hF => wp_cond_true (hF.agree _ _ hx) (ht a hF)
theorem W.cond_f {x : Operand} {t e : Code} {k : Ks} (hx : ev l x = some (.bool false)) (he : W P n ds e k l w) : W P n ds (.cond x t e) k l w :=
  fun a hF => wp_cond_false (hF.agree _ _ hx) (he a hF)
theorem W.block {id : Nat} {c : Code} (h : W P n ds c ⟨nrm, (id, nrm) :: exs, gts, rt, pn, ot⟩ l w) : W P n ds (.block id c) ⟨nrm, exs, gts, rt, pn, ot⟩ l w :=
  fun a hF => wp_block (Code.wp_mono (fun e a w q => by
    cases e with
    | exit id' =>
      obtain ⟨c, hc, hq⟩ := q
      simp only [lkE_cons] at hc
      by_cases e : id = id'
      · subst e; rw [if_pos rfl] at hc; cases hc
        show (if id = id then (Ks.Q ⟨nrm, exs, gts, rt, pn, ot⟩) Exit.normal a w else (Ks.Q ⟨nrm, exs, gts, rt, pn, ot⟩) (Exit.exit id) a w); rw [if_pos rfl]; exact hq
      · rw [if_neg e] at hc
        have e' : ¬ id' = id := fun h => e h.symm
        simp only [Exit.inBlock, e', if_false]
        exact ⟨c, hc, hq⟩
    | normal => exact q
    | goto l => exact q
    | ret => exact q
    | panic c => exact q
    | outgrown => exact q) (h a hF))
/-- What a round's end owes. -/
def Rnd {α : Type} (n : Nat) (ds : List Deferred) (env : α → Env) (I : α → World → Prop) (μ : α → Nat) (x : α) : Kont := fun a w => ∃ x', Fr n ds (env x') a ∧ I x' w ∧ μ x' < μ x
theorem W.loop {α : Type} {c : Code} (env : α → Env) (I : α → World → Prop) (μ : α → Nat) (x0 : α) (hs : Sub (env x0) l) (h0 : I x0 w)
    (round : ∀ x w, I x w → W P n ds c ⟨Rnd n ds env I μ x, exs, gts, rt, pn, ot⟩ (env x) w) : W P n ds (.loop c) ⟨nrm, exs, gts, rt, pn, ot⟩ l w := by
  classical
  intro a hF
  have key : ∀ m x a w, μ x = m → Fr n ds (env x) a → I x w → ∀ (b : Frame) (kk : List Item) (cs : List Frame),
      ∃ e a' w', (Ks.Q ⟨nrm, exs, gts, rt, pn, ot⟩) e a' w' ∧ Arrives P (lone (b.at a (.code c :: .inLoop c :: kk)) cs w) b kk cs e a' w' := by
    intro m
    induction m using Nat.strongRecOn with
    | _ m ih =>
      intro x a w hm hFr hI b kk cs
      obtain ⟨e, a₁, w₁, hq, harr⟩ := round x w hI a hFr b (.inLoop c :: kk) cs
      cases e with
      | normal =>
        obtain ⟨x', hFr', hI', hlt⟩ := hq
        obtain ⟨e₂, a₂, w₂, hq₂, harr₂⟩ := ih (μ x') (hm ▸ hlt) x' a₁ w₁ rfl hFr' hI' b kk cs
        exact ⟨e₂, a₂, w₂, hq₂, .of_steps (Steps.trans harr (.one step_inLoop)) harr₂⟩
      | exit id => exact ⟨.exit id, a₁, w₁, hq, .pass (x := .inLoop c) rfl (fun _ _ => .inl (by simp)) harr⟩
      | goto l => exact ⟨.goto l, a₁, w₁, hq, .pass (x := .inLoop c) rfl (fun _ _ => .inl (by simp)) harr⟩
      | ret => exact ⟨.ret, a₁, w₁, hq, .pass (x := .inLoop c) rfl (fun _ _ => .inl (by simp)) harr⟩
      | panic ch => exact ⟨.panic ch, a₁, w₁, hq, .pass (x := .inLoop c) rfl (fun _ _ => .inl (by simp)) harr⟩
      | outgrown => exact ⟨.outgrown, a₁, w₁, hq, .pass (x := .inLoop c) rfl (fun _ _ => .inl (by simp)) harr⟩
  intro b kk cs
  obtain ⟨e, a', w', hq, harr⟩ := key _ x0 a w rfl (hF.sub hs) h0 b kk cs
  exact ⟨e, a', w', hq, .of_steps (.one step_loop) harr⟩
theorem C.round {α : Type} {env : α → Env} {I : α → World → Prop} {μ : α → Nat} {x : α} (x' : α) (hs : Sub (env x') l) (hI : I x' w) (hlt : μ x' < μ x) :
    C n ds (Rnd n ds env I μ x) l w := fun _ hF => ⟨x', hF.sub hs, hI, hlt⟩
/-- Forget slots. -/
theorem W.sub {c : Code} {k : Ks} (l' : Env) (hs : Sub l' l) (h : W P n ds c k l' w) : W P n ds c k l w := fun a hF => h a (hF.sub hs)
/-- What a cut owes. -/
def Mid {α : Type} (n : Nat) (ds : List Deferred) (env : α → Env) (I : α → World → Prop) : Kont := fun a w => ∃ g, Fr n ds (env g) a ∧ I g w
/-- Cut: what holds behind the first piece. -/
theorem W.cut {α : Type} {x y : Code} (env : α → Env) (I : α → World → Prop)
    (h1 : W P n ds x ⟨Mid n ds env I, exs, gts, rt, pn, ot⟩ l w) (h2 : ∀ g w, I g w → W P n ds y ⟨nrm, exs, gts, rt, pn, ot⟩ (env g) w) : W P n ds (x.seq y) ⟨nrm, exs, gts, rt, pn, ot⟩ l w :=
  W.seq fun a hF => Code.wp_mono (fun e a w q => by
    cases e with
    | normal => obtain ⟨g, hF', hI⟩ := q; exact h2 g w hI a hF'
    | exit id => exact q
    | goto l => exact q
    | ret => exact q
    | panic c => exact q
    | outgrown => exact q) (h1 a hF)
theorem C.cut {α : Type} {env : α → Env} {I : α → World → Prop} (g : α) (hs : Sub (env g) l) (hI : I g w) : C n ds (Mid n ds env I) l w := fun _ hF => ⟨g, hF.sub hs, hI⟩
end

/-! ### A call of a function -/
/-- What a function's body owes. -/
def FRet (P : Program) (fn : Func) (R : Ending → World → Prop) : Kont := fun a w => a.defers = [] ∧ ∃ v, (results fn a.tmps).run P w = .ok v w ∧ R (.returned v) w
def FPan (R : Ending → World → Prop) (ch : List PanicEntry) : Kont := fun a w => a.defers = [] ∧ R (.panicked ch) w
def FOut (R : Ending → World → Prop) : Kont := fun _ w => R .outgrown w
def argEnv : Nat → List Value → Env
  | _, [] => []
  | i, v :: r => (i, v) :: argEnv (i + 1) r
theorem lk_argEnv : ∀ (vs : List Value) (i t : Nat) (v : Value), lk (argEnv i vs) t = some v → i ≤ t ∧ vs[t - i]? = some v
  | [], _, _, _, h => by simp [argEnv, lk] at h
  | u :: r, i, t, v, h => by
    rw [argEnv, lk_cons] at h
    by_cases e : i = t
    · subst e; rw [if_pos rfl] at h; cases h; simp
    · rw [if_neg e] at h
      obtain ⟨h1, h2⟩ := lk_argEnv r (i + 1) t v h
      refine ⟨by omega, ?_⟩
      rw [show t - i = (t - (i + 1)) + 1 by omega]; simpa using h2
theorem calls_of {P : Program} {f : FuncId} {fn : Func} {c : Code} {args : Array Value} {w : World} {R : Ending → World → Prop} {m : Nat}
    (hf : P.funcs[f]? = some fn) (hb : fn.body = some c) (hm : fn.ntmps = m) (hle : Nat.ble args.size m = true)
    (h : W P m [] c ⟨FRet P fn R, [], [], FRet P fn R, FPan R, FOut R⟩ (argEnv 0 args.toList) w) : Calls P f args w R := by
  have hle' : args.size ≤ m := by simpa using hle
  refine calls_of_wp hf hb (Code.wp_mono (Q := Ks.Q ⟨FRet P fn R, [], [], FRet P fn R, FPan R, FOut R⟩) (fun e a w q => ?_) (h _ ⟨?_, rfl, fun t v hv => ?_⟩))
  · cases e with
    | normal => exact q
    | exit id => obtain ⟨c, hc, _⟩ := q; simp [lkE] at hc
    | goto l => obtain ⟨c, hc, _⟩ := q; simp [lkE] at hc
    | ret => exact q
    | panic c => exact q
    | outgrown => exact q
  · simp [hm]; omega
  · obtain ⟨_, h2⟩ := lk_argEnv _ _ _ _ hv
    have : args[t]? = some v := by simpa using h2
    have hlt : t < args.size := (Array.getElem?_eq_some_iff.1 this).1
    show (args ++ _)[t]? = some v
    rw [Array.getElem?_append_left hlt]; exact this
theorem C.ret1 {P : Program} {fn : Func} {R : Ending → World → Prop} {n t : Nat} {l : Env} {w : World} {v : Value} (hr : fn.results = #[.tmp t]) (hv : lk l t = some v) (h : R (.returned v) w) :
    C n [] (FRet P fn R) l w := fun a hF => ⟨hF.defs, _, results_tmp hr _ _ _, by
      have := hF.get t v hv
      simpa [Array.getD_eq_getD_getElem?, this] using h⟩
theorem C.ret0 {P : Program} {fn : Func} {R : Ending → World → Prop} {n : Nat} {l : Env} {w : World} (hr : fn.results = #[]) (h : R (.returned (.tuple #[])) w) :
    C n [] (FRet P fn R) l w := fun _ hF => ⟨hF.defs, _, results_none hr _ _ _, h⟩
theorem C.ret2 {P : Program} {fn : Func} {R : Ending → World → Prop} {n t u : Nat} {l : Env} {w : World} {v x : Value} (hr : fn.results = #[.tmp t, .tmp u]) (hv : lk l t = some v) (hx : lk l u = some x)
    (h : R (.returned (.tuple #[v, x])) w) : C n [] (FRet P fn R) l w := fun a hF => ⟨hF.defs, _, results_tmp2 hr _ _ _, by
      have h1 := hF.get t v hv
      have h2 := hF.get u x hx
      simpa [Array.getD_eq_getD_getElem?, h1, h2] using h⟩
theorem C.ret3 {P : Program} {fn : Func} {R : Ending → World → Prop} {n t u s : Nat} {l : Env} {w : World} {v x y : Value} (hr : fn.results = #[.tmp t, .tmp u, .tmp s]) (hv : lk l t = some v) (hx : lk l u = some x) (hy : lk l s = some y)
    (h : R (.returned (.tuple #[v, x, y])) w) : C n [] (FRet P fn R) l w := fun a hF => ⟨hF.defs, .tuple #[v, x, y], by
      have h1 := hF.get t v hv
      have h2 := hF.get u x hx
      have h3 := hF.get s y hy
      simp [results, hr, h1, h2, h3], h⟩

/-! ### Worlds: all blocks but those of X are as they were -/
structure Kp (X : Nat → Prop) (w w' : World) : Prop where
  os : w'.os = w.os
  tape : w'.tape = w.tape
  output : w'.output = w.output
  size : w.heap.size ≤ w'.heap.size
  block : ∀ b, b < w.heap.size → ¬ X b → w'.heap[b]? = w.heap[b]?
abbrev Ext (w w' : World) : Prop := Kp (fun _ => False) w w'
section
variable {X Y Z : Nat → Prop} {w w1 w2 : World}
theorem Kp.refl (X : Nat → Prop) (w : World) : Kp X w w := ⟨rfl, rfl, rfl, Nat.le_refl _, fun _ _ _ => rfl⟩
theorem Kp.trans (h : Kp X w w1) (k : Kp Y w1 w2) (hX : ∀ b, b < w.heap.size → X b → Z b) (hY : ∀ b, b < w.heap.size → Y b → Z b) : Kp Z w w2 :=
  ⟨k.os.trans h.os, k.tape.trans h.tape, k.output.trans h.output, Nat.le_trans h.size k.size, fun b hb hZ =>
    (k.block b (Nat.lt_of_lt_of_le hb h.size) (fun hy => hZ (hY b hb hy))).trans (h.block b hb (fun hx => hZ (hX b hb hx)))⟩
theorem Kp.mono (h : Kp X w w1) (hX : ∀ b, b < w.heap.size → X b → Y b) : Kp Y w w1 := ⟨h.os, h.tape, h.output, h.size, fun b hb hy => h.block b hb (fun hx => hy (hX b hb hx))⟩
theorem Ext.to (h : Ext w w1) (X : Nat → Prop) : Kp X w w1 := h.mono (fun _ _ h => h.elim)
theorem Ext.trans (h : Ext w w1) (k : Ext w1 w2) : Ext w w2 := Kp.trans h k (fun _ _ h => h) (fun _ _ h => h)
theorem Kp.ext (h : Kp X w w1) (k : Ext w1 w2) : Kp X w w2 := Kp.trans h k (fun _ _ h => h) (fun _ _ h => h.elim)
theorem Ext.kp (h : Ext w w1) (k : Kp X w1 w2) : Kp X w w2 := Kp.trans h k (fun _ _ h => h.elim) (fun _ _ h => h)
theorem Kp.both (h : Kp X w w1) (k : Kp X w1 w2) : Kp X w w2 := Kp.trans h k (fun _ _ h => h) (fun _ _ h => h)
/-- What was new a step ago is no old block. -/
theorem Kp.new (h : Kp X w w1) (k : Kp Y w1 w2) (hY : ∀ b, Y b → w.heap.size ≤ b) : Kp X w w2 := Kp.trans h k (fun _ _ h => h) (fun b hb hy => absurd (hY b hy) (by omega))
theorem Kp.heap (h : Kp X w w1) {b : Nat} {o : Obj} (hb : w.heap[b]? = some o) (hx : ¬ X b) : w1.heap[b]? = some o :=
  (h.block b (Array.getElem?_eq_some_iff.1 hb).1 hx).trans hb
theorem Kp.cell (h : Kp X w w1) {a : Addr} {v : Value} (hc : w.cell? a = some v) (hx : ¬ X a.block) : w1.cell? a = some v :=
  (World.cell?_of_block (h.block a.block (World.block_lt_of_cell? w a hc) hx)).trans hc
theorem Kp.frozen (h : Kp X w w1) {a : Addr} (hl : a.block < w.heap.size) (hx : ¬ X a.block) : w1.frozen? a = w.frozen? a := World.frozen?_of_block (h.block a.block hl hx)
theorem Ext.heap (h : Ext w w1) {b : Nat} {o : Obj} (hb : w.heap[b]? = some o) : w1.heap[b]? = some o := Kp.heap h hb id
theorem Ext.cell (h : Ext w w1) {a : Addr} {v : Value} (hc : w.cell? a = some v) : w1.cell? a = some v := Kp.cell h hc id
theorem Ext.below (h : Ext w w1) : Below w.heap.size w w1 := ⟨h.os, h.tape, h.output, h.size, fun b hb => h.block b hb id⟩
theorem Ext.of_below (h : Below w.heap.size w w1) : Ext w w1 := ⟨h.os, h.tape, h.output, h.size, fun b hb _ => h.block b hb⟩
theorem Ext.alloc (w : World) (o : Obj) : Ext w (w.alloc o) := Ext.of_below ((Below.refl _ _).alloc (Nat.le_refl _) _)
theorem Ext.drew (w : World) : Ext w w.drew := ⟨rfl, rfl, rfl, Nat.le_refl _, fun _ _ _ => rfl⟩
theorem Ext.grown {row : Option Nat} (h : w.grownBy w1 row) : Kp (fun b => row = some b) w w1 := ⟨h.os, h.tape, h.output, h.size, fun b hb hx => h.block b hb (fun e => hx e.symm)⟩
theorem Kp.setCell (w : World) (a : Addr) (v : Value) : Kp (fun b => b = a.block) w (w.setCell a v) := ⟨rfl, rfl, rfl, by simp, fun b _ hx => Below.heap_setCell w a v b hx⟩
theorem blk_lt {b : Nat} {o : Obj} (h : w.heap[b]? = some o) : b < w.heap.size := (Array.getElem?_eq_some_iff.1 h).1
theorem blk_cell {b i : Nat} {cs : Array Value} {t : TypeId} {fr : Nat × Nat} {v : Value} (h : w.heap[b]? = some (.cells cs t fr)) (hv : cs[i]? = some v) : w.cell? ⟨b, i, none⟩ = some v := by
  rw [cell_of_row w b i cs t fr h]; exact hv
theorem blk_frozen {b i : Nat} {cs : Array Value} {t : TypeId} (h : w.heap[b]? = some (.cells cs t (0, 0))) : w.frozen? ⟨b, i, none⟩ = false := frozen_of_row w b i cs t h
theorem blk_set {b i : Nat} {cs : Array Value} {t : TypeId} {fr : Nat × Nat} (v : Value) (h : w.heap[b]? = some (.cells cs t fr)) : (w.setCell ⟨b, i, none⟩ v).heap[b]? = some (.cells (cs.setIfInBounds i v) t fr) := by
  simp [World.setCell, Array.getElem?_modify, h]
theorem alloc_new (w : World) (o : Obj) : (w.alloc o).heap[w.heap.size]? = some o := heap_alloc_new w o
end

/-! ### Regions in the text's order -/
def SQ (P : Program) (ops : Array Oper) (n : Nat) (ds : List Deferred) (k : Ks) (rest : List Oper) (l : Env) (w : World) : Prop := ∀ a, Fr n ds l a → wpList P ops k.Q rest a w
/-- Whatever reads its operands as l does: the operation hands back v and leaves w'. -/
def Run (P : Program) (o : Oper) (l : Env) (w : World) (v : Value) (w' : World) : Prop := ∀ ρ, Agree ρ l → (execOp ρ o).run P w = .ok (.value v) w'
/-- .. leaves w', handing back nothing. -/
def Run0 (P : Program) (o : Oper) (l : Env) (w : World) (w' : World) : Prop := ∀ ρ, Agree ρ l → (execOp ρ o).run P w = .ok .skip w'
/-- .. enters a function. -/
def RunC (P : Program) (o : Oper) (l : Env) (w : World) (f : FuncId) (args : Array Value) : Prop := ∀ ρ, Agree ρ l → (execOp ρ o).run P w = .ok (.enter f args) w
section
variable {P : Program} {n : Nat} {ds : List Deferred} {k : Ks} {l : Env} {w : World} {ops : Array Oper} {rest : List Oper} {o : Oper}
theorem W.region {id : Nat} {os : List Oper} (h : SQ P os.toArray n ds k os l w) : W P n ds (.region id os.toArray false) k l w := fun a hF => wp_region_lit (h a hF)
theorem SQ.nil {nrm : Kont} {exs gts : List (Nat × Kont)} {rt : Kont} {pn : List PanicEntry → Kont} {ot : Kont} (h : C n ds nrm l w) : SQ P ops n ds ⟨nrm, exs, gts, rt, pn, ot⟩ [] l w := fun a hF => wpList_nil (h a hF)
theorem wanted_none (hg : o.guard = none) (y : Nat → Option Bool) : Region.wanted o y = true := by simp [Region.wanted, hg]
theorem SQ.wantedOf {a : Act} {d : Nat} {i : Nat} {b want : Bool} {oi : Oper} (hF : Fr n ds l a) (hg : o.guard = some (i, want)) (hi : ops[i]? = some oi) (hd : oi.dst = some d) (hv : lk l d = some (.bool b)) :
    Region.wanted o (yielded ops a.tmps) = (b == want) := by
  have h1 := hF.get d _ hv
  simp [Region.wanted, hg, yielded, hi, hd, h1]
/-- One operation that hands back a value. -/
theorem SQ.op {d : Nat} {v : Value} {w' : World} (hg : o.guard = none) (hd : o.dst = some d) (hn : Nat.blt d n = true) (hr : Run P o l w v w') (h : SQ P ops n ds k rest ((d, v) :: l) w') :
    SQ P ops n ds k (o :: rest) l w := fun a hF => wpList_plain hg fun K hK => by
      unfold Oper.wp
      rw [hr _ hF.agree, Oper.upon_value, hd]
      exact hK _ _ (h _ (hF.put hn v))
theorem SQ.op_ {v : Value} {w' : World} (hg : o.guard = none) (hd : o.dst = none) (hr : Run P o l w v w') (h : SQ P ops n ds k rest l w') :
    SQ P ops n ds k (o :: rest) l w := fun a hF => wpList_plain hg fun K hK => by
      unfold Oper.wp
      rw [hr _ hF.agree, Oper.upon_value, hd]
      exact hK _ _ (h _ hF)
/-- One operation that hands back nothing (a store). -/
theorem SQ.op0 {w' : World} (hg : o.guard = none) (hd : o.dst = none) (hr : Run0 P o l w w') (h : SQ P ops n ds k rest l w') : SQ P ops n ds k (o :: rest) l w := fun a hF => wpList_plain hg fun K hK => by
      unfold Oper.wp
      rw [hr _ hF.agree, Oper.upon_skip, hd]
      exact hK _ _ (h _ hF)
/-- A call. -/
theorem SQ.call {d : Nat} {f : FuncId} {args : Array Value} {R : Ending → World → Prop} (hg : o.guard = none) (hd : o.dst = some d) (hn : Nat.blt d n = true) (hr : RunC P o l w f args) (hc : Calls P f args w R)
    (hR : ∀ e w', R e w' → ∃ v, e = .returned v ∧ SQ P ops n ds k rest ((d, v) :: l) w') : SQ P ops n ds k (o :: rest) l w := fun a hF => wpList_plain hg fun K hK => by
      unfold Oper.wp
      rw [hr _ hF.agree, Oper.upon_enter]
      refine hc.mono fun e w' hRe => ?_
      obtain ⟨v, rfl, h⟩ := hR e w' hRe
      rw [hd]
      exact hK _ _ (h _ (hF.put hn v))
theorem SQ.call_ {f : FuncId} {args : Array Value} {R : Ending → World → Prop} (hg : o.guard = none) (hd : o.dst = none) (hr : RunC P o l w f args) (hc : Calls P f args w R)
    (hR : ∀ e w', R e w' → ∃ v, e = .returned v ∧ SQ P ops n ds k rest l w') : SQ P ops n ds k (o :: rest) l w := fun a hF => wpList_plain hg fun K hK => by
      unfold Oper.wp
      rw [hr _ hF.agree, Oper.upon_enter]
      refine hc.mono fun e w' hRe => ?_
      obtain ⟨v, rfl, h⟩ := hR e w' hRe
      rw [hd]
      exact hK _ _ (h _ hF)
/-- A call that may panic, in a function. -/
theorem SQ.callP {nrm : Kont} {exs gts : List (Nat × Kont)} {rt : Kont} {pn : List PanicEntry → Kont} {ot : Kont} {d : Nat} {f : FuncId} {args : Array Value} {R : Ending → World → Prop} (hg : o.guard = none) (hd : o.dst = some d) (hn : Nat.blt d n = true) (hr : RunC P o l w f args) (hc : Calls P f args w R)
    (hR : ∀ e w', R e w' → (∃ v, e = .returned v ∧ SQ P ops n ds ⟨nrm, exs, gts, rt, pn, ot⟩ rest ((d, v) :: l) w') ∨ (∃ c, e = .panicked c ∧ C n ds (pn c) l w')) : SQ P ops n ds ⟨nrm, exs, gts, rt, pn, ot⟩ (o :: rest) l w := fun a hF => wpList_plain hg fun K hK => by
      unfold Oper.wp
      rw [hr _ hF.agree, Oper.upon_enter]
      refine hc.mono fun e w' hRe => ?_
      rcases hR e w' hRe with ⟨v, rfl, h⟩ | ⟨c, rfl, h⟩
      · rw [hd]; exact hK _ _ (h _ (hF.put hn v))
      · exact h a hF
theorem SQ.callP_ {nrm : Kont} {exs gts : List (Nat × Kont)} {rt : Kont} {pn : List PanicEntry → Kont} {ot : Kont} {f : FuncId} {args : Array Value} {R : Ending → World → Prop} (hg : o.guard = none) (hd : o.dst = none) (hr : RunC P o l w f args) (hc : Calls P f args w R)
    (hR : ∀ e w', R e w' → (∃ v, e = .returned v ∧ SQ P ops n ds ⟨nrm, exs, gts, rt, pn, ot⟩ rest l w') ∨ (∃ c, e = .panicked c ∧ C n ds (pn c) l w')) : SQ P ops n ds ⟨nrm, exs, gts, rt, pn, ot⟩ (o :: rest) l w := fun a hF => wpList_plain hg fun K hK => by
      unfold Oper.wp
      rw [hr _ hF.agree, Oper.upon_enter]
      refine hc.mono fun e w' hRe => ?_
      rcases hR e w' hRe with ⟨v, rfl, h⟩ | ⟨c, rfl, h⟩
      · rw [hd]; exact hK _ _ (h _ hF)
      · exact h a hF
/-- A panic of the text's own. -/
theorem SQ.panic {nrm : Kont} {exs gts : List (Nat × Kont)} {rt : Kont} {pn : List PanicEntry → Kont} {ot : Kont} {v : Value} {w' : World} (hg : o.guard = none) (hr : ∀ ρ, Agree ρ l → (execOp ρ o).run P w = .halt (.panic v) w') (h : C n ds (pn [{ v, recovered := false }]) l w') :
    SQ P ops n ds ⟨nrm, exs, gts, rt, pn, ot⟩ (o :: rest) l w := fun a hF => wpList_plain hg fun K _ => by
      unfold Oper.wp
      rw [hr _ hF.agree, Oper.upon_panic]
      exact h a hF
/-- Guarded operations. -/
theorem SQ.skip {d i dj : Nat} {b want : Bool} {oi : Oper} (hg : o.guard = some (i, want)) (hi : ops[i]? = some oi) (hj : oi.dst = some dj) (hv : lk l dj = some (.bool b)) (hb : (b == want) = false)
    (hd : o.dst = some d) (hn : Nat.blt d n = true) (h : SQ P ops n ds k rest ((d, undef) :: l) w) : SQ P ops n ds k (o :: rest) l w := fun a hF => by
      unfold wpList
      rw [SQ.wantedOf hF hg hi hj hv, hb, if_neg (by simp), hd]
      exact h _ (hF.put hn undef)
theorem SQ.skip_ {i dj : Nat} {b want : Bool} {oi : Oper} (hg : o.guard = some (i, want)) (hi : ops[i]? = some oi) (hj : oi.dst = some dj) (hv : lk l dj = some (.bool b)) (hb : (b == want) = false)
    (hd : o.dst = none) (h : SQ P ops n ds k rest l w) : SQ P ops n ds k (o :: rest) l w := fun a hF => by
      unfold wpList
      rw [SQ.wantedOf hF hg hi hj hv, hb, if_neg (by simp), hd]
      exact h _ hF
/-- A guard that says yes: the operation as if it had none. -/
theorem SQ.guarded {i dj : Nat} {b want : Bool} {oi : Oper} (hg : o.guard = some (i, want)) (hi : ops[i]? = some oi) (hj : oi.dst = some dj) (hv : lk l dj = some (.bool b)) (hb : (b == want) = true)
    (h : SQ P ops n ds k ({ o with guard := none } :: rest) l w) : SQ P ops n ds k (o :: rest) l w := fun a hF => by
      have := h a hF
      unfold wpList at this ⊢
      rw [SQ.wantedOf hF hg hi hj hv, hb, if_pos rfl]
      rw [wanted_none (o := { o with guard := none }) rfl, if_pos rfl] at this
      rcases this with h1 | ⟨h1, h2⟩
      · exact .inl h1
      · exact .inr ⟨h1, h2⟩
end
/-- What makes a new block. -/
theorem SQ.new {P : Program} {n : Nat} {ds : List Deferred} {k : Ks} {l : Env} {w : World} {ops : Array Oper} {rest : List Oper} {o : Oper} {d : Nat} {v : Nat → Value} {obj : Obj}
    (hg : o.guard = none) (hd : o.dst = some d) (hn : Nat.blt d n = true) (hr : Run P o l w (v w.heap.size) (w.alloc obj))
    (h : ∀ nb w', w.heap.size ≤ nb → nb < w'.heap.size → w'.heap[nb]? = some obj → Ext w w' → SQ P ops n ds k rest ((d, v nb) :: l) w') : SQ P ops n ds k (o :: rest) l w :=
  SQ.op hg hd hn hr (h _ _ (Nat.le_refl _) (by simp) (alloc_new w obj) (Ext.alloc w obj))
/-- A store into a block that is known. -/
theorem SQ.store {P : Program} {n : Nat} {ds : List Deferred} {k : Ks} {l : Env} {w : World} {ops : Array Oper} {rest : List Oper} {o : Oper} {b q : Nat} {v : Value} {cs cs' : List Value} {t t' : TypeId} {x y : Operand}
    (ho : o.op = .store t x y) (hg : o.guard = none) (hd : o.dst = none) (hx : ev l x = some (.pointer (some ⟨b, q, none⟩))) (hy : ev l y = some v) (hs : ∀ w, (sizeOf t).run P w = .ok 1 w) (h1 : v.oneCell' = true)
    (hb : w.heap[b]? = some (.cells cs.toArray t' (0, 0))) (hu : updK cs q v some = some cs')
    (h : ∀ w', w'.heap[b]? = some (.cells cs'.toArray t' (0, 0)) → Kp (fun c => c = b) w w' → SQ P ops n ds k rest l w') : SQ P ops n ds k (o :: rest) l w := by
  obtain ⟨hlt, he⟩ := updK_eq _ _ _ _ _ hu
  have he' : cs.set q v = cs' := by simpa using he
  refine SQ.op0 (w' := w.setCell ⟨b, q, none⟩ v) hg hd (fun ρ hρ => by
    have hc : w.cell? ⟨b, q, none⟩ = some cs[q] := blk_cell hb (by simp [hlt])
    have hf : w.frozen? ⟨b, q, none⟩ = false := blk_frozen hb
    have hcells : v.cells = #[v] := by cases v <;> first | rfl | (simp [Value.oneCell'] at h1)
    simp [execOp, ho, hρ x _ hx, hρ y _ hy, Instr.storeAt, Instr.sureAddr, storeVar, hs, hcells, storeCells, Addr.add, run_store _ _ _ _ _ h1, hc, hf])
    (h _ (by have := blk_set (i := q) v hb; rw [← he']; simpa using this) (Kp.setCell w ⟨b, q, none⟩ v))
end Go.FL
