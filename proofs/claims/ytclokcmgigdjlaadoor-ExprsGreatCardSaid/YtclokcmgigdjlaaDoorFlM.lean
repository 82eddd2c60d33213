/- How far memory reaches; cuts whose invariant is read off the walk. No project text. -/
import Derived.Test.YtclokcmgigdjlaaDoorFlL
set_option linter.unusedSimpArgs false
set_option linter.unusedVariables false
namespace Go.FL
open Go.RowKit
/-- Memory reaches to N at least. -/
structure Sz (N : Nat) (w : World) : Prop where
  le : N ≤ w.heap.size
theorem Sz.ext {N : Nat} {w w' : World} (h : Sz N w) (hE : Ext w w') : Sz N w' := ⟨Nat.le_trans h.le hE.size⟩
theorem Sz.kp {N : Nat} {w w' : World} {X : Nat → Prop} (h : Sz N w) (hK : Kp X w w') (_ : True) : Sz N w' := ⟨Nat.le_trans h.le hK.size⟩
theorem Sz.here (w : World) : Sz w.heap.size w := ⟨Nat.le_refl _⟩
/-- The slots that are kept, written out. -/
def restrictK : List Nat → Env → (Env → Option Env) → Option Env
  | [], _, k => k []
  | t :: ts, l, k => match lk l t with
    | some v => restrictK ts l fun e => k ((t, v) :: e)
    | none => none
theorem restrict_sub {l : Env} : ∀ (ks : List Nat) (k : Env → Option Env) (r : Env), restrictK ks l k = some r → ∃ e, k e = some r ∧ Sub e l
  | [], k, r, h => ⟨[], h, trivial⟩
  | t :: ts, k, r, h => by
    unfold restrictK at h
    cases hl : lk l t with
    | none => simp [hl] at h
    | some v =>
      simp only [hl] at h
      obtain ⟨e, h1, h2⟩ := restrict_sub ts _ r h
      exact ⟨_, h1, hl, h2⟩
theorem restrict_env {l e : Env} {ks : List Nat} (h : restrictK ks l some = some e) : Sub e l := by
  obtain ⟨e', h1, h2⟩ := restrict_sub ks some e h
  cases h1; exact h2
section
variable {P : Program} {n : Nat} {ds : List Deferred} {nrm : Kont} {exs gts : List (Nat × Kont)} {rt : Kont} {pn : List PanicEntry → Kont} {ot : Kont} {l : Env} {w : World}
theorem W.fresh {c : Code} {k : Ks} (h : ∀ w', Ext w w' → W P n ds c k l w') : W P n ds c k l w := h w (Kp.refl _ _)
theorem W.cutA0  {x y : Code} {env : Env} {I : World → Prop} (h1 : W P n ds x ⟨(fun a w => Fr n ds (env) a ∧ I w), exs, gts, rt, pn, ot⟩ l w) (h2 : ∀ w, I w → W P n ds y ⟨nrm, exs, gts, rt, pn, ot⟩ (env) w) : W P n ds (x.seq y) ⟨nrm, exs, gts, rt, pn, ot⟩ l w :=
  W.seq fun a hF => Code.wp_mono (fun e a w q => by
    cases e with
    | normal => obtain ⟨hF', hI⟩ := q; exact h2 w hI a hF'
    | exit id => exact q
    | goto l => exact q
    | ret => exact q
    | panic c => exact q
    | outgrown => exact q) (h1 a hF)
theorem C.cutA0  {env : Env} {I : World → Prop} (ks : List Nat) (hs : restrictK ks l some = some (env)) (hI : I w) : C n ds (fun a w => Fr n ds (env) a ∧ I w) l w := fun _ hF => ⟨hF.sub (restrict_env hs), hI⟩
theorem W.cutA1 {α : Type} {x y : Code} {env : α → Env} {I : α → World → Prop} (h1 : W P n ds x ⟨(fun a w => ∃ a0, Fr n ds (env a0) a ∧ I a0 w), exs, gts, rt, pn, ot⟩ l w) (h2 : ∀ (a0 : α) w, I a0 w → W P n ds y ⟨nrm, exs, gts, rt, pn, ot⟩ (env a0) w) : W P n ds (x.seq y) ⟨nrm, exs, gts, rt, pn, ot⟩ l w :=
  W.seq fun a hF => Code.wp_mono (fun e a w q => by
    cases e with
    | normal => obtain ⟨a0, hF', hI⟩ := q; exact h2 a0 w hI a hF'
    | exit id => exact q
    | goto l => exact q
    | ret => exact q
    | panic c => exact q
    | outgrown => exact q) (h1 a hF)
theorem C.cutA1 {α : Type} {env : α → Env} {I : α → World → Prop} (a0 : α) (ks : List Nat) (hs : restrictK ks l some = some (env a0)) (hI : I a0 w) : C n ds (fun a w => ∃ a0, Fr n ds (env a0) a ∧ I a0 w) l w := fun _ hF => ⟨a0, hF.sub (restrict_env hs), hI⟩
theorem W.cutA2 {α : Type} {β : Type} {x y : Code} {env : α → β → Env} {I : α → β → World → Prop} (h1 : W P n ds x ⟨(fun a w => ∃ a0, ∃ a1, Fr n ds (env a0 a1) a ∧ I a0 a1 w), exs, gts, rt, pn, ot⟩ l w) (h2 : ∀ (a0 : α) (a1 : β) w, I a0 a1 w → W P n ds y ⟨nrm, exs, gts, rt, pn, ot⟩ (env a0 a1) w) : W P n ds (x.seq y) ⟨nrm, exs, gts, rt, pn, ot⟩ l w :=
  W.seq fun a hF => Code.wp_mono (fun e a w q => by
    cases e with
    | normal => obtain ⟨a0, a1, hF', hI⟩ := q; exact h2 a0 a1 w hI a hF'
    | exit id => exact q
    | goto l => exact q
    | ret => exact q
    | panic c => exact q
    | outgrown => exact q) (h1 a hF)
theorem C.cutA2 {α : Type} {β : Type} {env : α → β → Env} {I : α → β → World → Prop} (a0 : α) (a1 : β) (ks : List Nat) (hs : restrictK ks l some = some (env a0 a1)) (hI : I a0 a1 w) : C n ds (fun a w => ∃ a0, ∃ a1, Fr n ds (env a0 a1) a ∧ I a0 a1 w) l w := fun _ hF => ⟨a0, a1, hF.sub (restrict_env hs), hI⟩
theorem W.cutA3 {α : Type} {β : Type} {γ : Type} {x y : Code} {env : α → β → γ → Env} {I : α → β → γ → World → Prop} (h1 : W P n ds x ⟨(fun a w => ∃ a0, ∃ a1, ∃ a2, Fr n ds (env a0 a1 a2) a ∧ I a0 a1 a2 w), exs, gts, rt, pn, ot⟩ l w) (h2 : ∀ (a0 : α) (a1 : β) (a2 : γ) w, I a0 a1 a2 w → W P n ds y ⟨nrm, exs, gts, rt, pn, ot⟩ (env a0 a1 a2) w) : W P n ds (x.seq y) ⟨nrm, exs, gts, rt, pn, ot⟩ l w :=
  W.seq fun a hF => Code.wp_mono (fun e a w q => by
    cases e with
    | normal => obtain ⟨a0, a1, a2, hF', hI⟩ := q; exact h2 a0 a1 a2 w hI a hF'
    | exit id => exact q
    | goto l => exact q
    | ret => exact q
    | panic c => exact q
    | outgrown => exact q) (h1 a hF)
theorem C.cutA3 {α : Type} {β : Type} {γ : Type} {env : α → β → γ → Env} {I : α → β → γ → World → Prop} (a0 : α) (a1 : β) (a2 : γ) (ks : List Nat) (hs : restrictK ks l some = some (env a0 a1 a2)) (hI : I a0 a1 a2 w) : C n ds (fun a w => ∃ a0, ∃ a1, ∃ a2, Fr n ds (env a0 a1 a2) a ∧ I a0 a1 a2 w) l w := fun _ hF => ⟨a0, a1, a2, hF.sub (restrict_env hs), hI⟩
theorem W.cutA4 {α : Type} {β : Type} {γ : Type} {δ : Type} {x y : Code} {env : α → β → γ → δ → Env} {I : α → β → γ → δ → World → Prop} (h1 : W P n ds x ⟨(fun a w => ∃ a0, ∃ a1, ∃ a2, ∃ a3, Fr n ds (env a0 a1 a2 a3) a ∧ I a0 a1 a2 a3 w), exs, gts, rt, pn, ot⟩ l w) (h2 : ∀ (a0 : α) (a1 : β) (a2 : γ) (a3 : δ) w, I a0 a1 a2 a3 w → W P n ds y ⟨nrm, exs, gts, rt, pn, ot⟩ (env a0 a1 a2 a3) w) : W P n ds (x.seq y) ⟨nrm, exs, gts, rt, pn, ot⟩ l w :=
  W.seq fun a hF => Code.wp_mono (fun e a w q => by
    cases e with
    | normal => obtain ⟨a0, a1, a2, a3, hF', hI⟩ := q; exact h2 a0 a1 a2 a3 w hI a hF'
    | exit id => exact q
    | goto l => exact q
    | ret => exact q
    | panic c => exact q
    | outgrown => exact q) (h1 a hF)
theorem C.cutA4 {α : Type} {β : Type} {γ : Type} {δ : Type} {env : α → β → γ → δ → Env} {I : α → β → γ → δ → World → Prop} (a0 : α) (a1 : β) (a2 : γ) (a3 : δ) (ks : List Nat) (hs : restrictK ks l some = some (env a0 a1 a2 a3)) (hI : I a0 a1 a2 a3 w) : C n ds (fun a w => ∃ a0, ∃ a1, ∃ a2, ∃ a3, Fr n ds (env a0 a1 a2 a3) a ∧ I a0 a1 a2 a3 w) l w := fun _ hF => ⟨a0, a1, a2, a3, hF.sub (restrict_env hs), hI⟩
theorem W.cutA5 {α : Type} {β : Type} {γ : Type} {δ : Type} {ε : Type} {x y : Code} {env : α → β → γ → δ → ε → Env} {I : α → β → γ → δ → ε → World → Prop} (h1 : W P n ds x ⟨(fun a w => ∃ a0, ∃ a1, ∃ a2, ∃ a3, ∃ a4, Fr n ds (env a0 a1 a2 a3 a4) a ∧ I a0 a1 a2 a3 a4 w), exs, gts, rt, pn, ot⟩ l w) (h2 : ∀ (a0 : α) (a1 : β) (a2 : γ) (a3 : δ) (a4 : ε) w, I a0 a1 a2 a3 a4 w → W P n ds y ⟨nrm, exs, gts, rt, pn, ot⟩ (env a0 a1 a2 a3 a4) w) : W P n ds (x.seq y) ⟨nrm, exs, gts, rt, pn, ot⟩ l w :=
  W.seq fun a hF => Code.wp_mono (fun e a w q => by
    cases e with
    | normal => obtain ⟨a0, a1, a2, a3, a4, hF', hI⟩ := q; exact h2 a0 a1 a2 a3 a4 w hI a hF'
    | exit id => exact q
    | goto l => exact q
    | ret => exact q
    | panic c => exact q
    | outgrown => exact q) (h1 a hF)
theorem C.cutA5 {α : Type} {β : Type} {γ : Type} {δ : Type} {ε : Type} {env : α → β → γ → δ → ε → Env} {I : α → β → γ → δ → ε → World → Prop} (a0 : α) (a1 : β) (a2 : γ) (a3 : δ) (a4 : ε) (ks : List Nat) (hs : restrictK ks l some = some (env a0 a1 a2 a3 a4)) (hI : I a0 a1 a2 a3 a4 w) : C n ds (fun a w => ∃ a0, ∃ a1, ∃ a2, ∃ a3, ∃ a4, Fr n ds (env a0 a1 a2 a3 a4) a ∧ I a0 a1 a2 a3 a4 w) l w := fun _ hF => ⟨a0, a1, a2, a3, a4, hF.sub (restrict_env hs), hI⟩
theorem W.cutA6 {α : Type} {β : Type} {γ : Type} {δ : Type} {ε : Type} {ζ : Type} {x y : Code} {env : α → β → γ → δ → ε → ζ → Env} {I : α → β → γ → δ → ε → ζ → World → Prop} (h1 : W P n ds x ⟨(fun a w => ∃ a0, ∃ a1, ∃ a2, ∃ a3, ∃ a4, ∃ a5, Fr n ds (env a0 a1 a2 a3 a4 a5) a ∧ I a0 a1 a2 a3 a4 a5 w), exs, gts, rt, pn, ot⟩ l w) (h2 : ∀ (a0 : α) (a1 : β) (a2 : γ) (a3 : δ) (a4 : ε) (a5 : ζ) w, I a0 a1 a2 a3 a4 a5 w → W P n ds y ⟨nrm, exs, gts, rt, pn, ot⟩ (env a0 a1 a2 a3 a4 a5) w) : W P n ds (x.seq y) ⟨nrm, exs, gts, rt, pn, ot⟩ l w :=
  W.seq fun a hF => Code.wp_mono (fun e a w q => by
    cases e with
    | normal => obtain ⟨a0, a1, a2, a3, a4, a5, hF', hI⟩ := q; exact h2 a0 a1 a2 a3 a4 a5 w hI a hF'
    | exit id => exact q
    | goto l => exact q
    | ret => exact q
    | panic c => exact q
    | outgrown => exact q) (h1 a hF)
theorem C.cutA6 {α : Type} {β : Type} {γ : Type} {δ : Type} {ε : Type} {ζ : Type} {env : α → β → γ → δ → ε → ζ → Env} {I : α → β → γ → δ → ε → ζ → World → Prop} (a0 : α) (a1 : β) (a2 : γ) (a3 : δ) (a4 : ε) (a5 : ζ) (ks : List Nat) (hs : restrictK ks l some = some (env a0 a1 a2 a3 a4 a5)) (hI : I a0 a1 a2 a3 a4 a5 w) : C n ds (fun a w => ∃ a0, ∃ a1, ∃ a2, ∃ a3, ∃ a4, ∃ a5, Fr n ds (env a0 a1 a2 a3 a4 a5) a ∧ I a0 a1 a2 a3 a4 a5 w) l w := fun _ hF => ⟨a0, a1, a2, a3, a4, a5, hF.sub (restrict_env hs), hI⟩
theorem W.cutA7 {α : Type} {β : Type} {γ : Type} {δ : Type} {ε : Type} {ζ : Type} {η : Type} {x y : Code} {env : α → β → γ → δ → ε → ζ → η → Env} {I : α → β → γ → δ → ε → ζ → η → World → Prop} (h1 : W P n ds x ⟨(fun a w => ∃ a0, ∃ a1, ∃ a2, ∃ a3, ∃ a4, ∃ a5, ∃ a6, Fr n ds (env a0 a1 a2 a3 a4 a5 a6) a ∧ I a0 a1 a2 a3 a4 a5 a6 w), exs, gts, rt, pn, ot⟩ l w) (h2 : ∀ (a0 : α) (a1 : β) (a2 : γ) (a3 : δ) (a4 : ε) (a5 : ζ) (a6 : η) w, I a0 a1 a2 a3 a4 a5 a6 w → W P n ds y ⟨nrm, exs, gts, rt, pn, ot⟩ (env a0 a1 a2 a3 a4 a5 a6) w) : W P n ds (x.seq y) ⟨nrm, exs, gts, rt, pn, ot⟩ l w :=
  W.seq fun a hF => Code.wp_mono (fun e a w q => by
    cases e with
    | normal => obtain ⟨a0, a1, a2, a3, a4, a5, a6, hF', hI⟩ := q; exact h2 a0 a1 a2 a3 a4 a5 a6 w hI a hF'
    | exit id => exact q
    | goto l => exact q
    | ret => exact q
    | panic c => exact q
    | outgrown => exact q) (h1 a hF)
theorem C.cutA7 {α : Type} {β : Type} {γ : Type} {δ : Type} {ε : Type} {ζ : Type} {η : Type} {env : α → β → γ → δ → ε → ζ → η → Env} {I : α → β → γ → δ → ε → ζ → η → World → Prop} (a0 : α) (a1 : β) (a2 : γ) (a3 : δ) (a4 : ε) (a5 : ζ) (a6 : η) (ks : List Nat) (hs : restrictK ks l some = some (env a0 a1 a2 a3 a4 a5 a6)) (hI : I a0 a1 a2 a3 a4 a5 a6 w) : C n ds (fun a w => ∃ a0, ∃ a1, ∃ a2, ∃ a3, ∃ a4, ∃ a5, ∃ a6, Fr n ds (env a0 a1 a2 a3 a4 a5 a6) a ∧ I a0 a1 a2 a3 a4 a5 a6 w) l w := fun _ hF => ⟨a0, a1, a2, a3, a4, a5, a6, hF.sub (restrict_env hs), hI⟩
theorem W.cutA8 {α : Type} {β : Type} {γ : Type} {δ : Type} {ε : Type} {ζ : Type} {η : Type} {θ : Type} {x y : Code} {env : α → β → γ → δ → ε → ζ → η → θ → Env} {I : α → β → γ → δ → ε → ζ → η → θ → World → Prop} (h1 : W P n ds x ⟨(fun a w => ∃ a0, ∃ a1, ∃ a2, ∃ a3, ∃ a4, ∃ a5, ∃ a6, ∃ a7, Fr n ds (env a0 a1 a2 a3 a4 a5 a6 a7) a ∧ I a0 a1 a2 a3 a4 a5 a6 a7 w), exs, gts, rt, pn, ot⟩ l w) (h2 : ∀ (a0 : α) (a1 : β) (a2 : γ) (a3 : δ) (a4 : ε) (a5 : ζ) (a6 : η) (a7 : θ) w, I a0 a1 a2 a3 a4 a5 a6 a7 w → W P n ds y ⟨nrm, exs, gts, rt, pn, ot⟩ (env a0 a1 a2 a3 a4 a5 a6 a7) w) : W P n ds (x.seq y) ⟨nrm, exs, gts, rt, pn, ot⟩ l w :=
  W.seq fun a hF => Code.wp_mono (fun e a w q => by
    cases e with
    | normal => obtain ⟨a0, a1, a2, a3, a4, a5, a6, a7, hF', hI⟩ := q; exact h2 a0 a1 a2 a3 a4 a5 a6 a7 w hI a hF'
    | exit id => exact q
    | goto l => exact q
    | ret => exact q
    | panic c => exact q
    | outgrown => exact q) (h1 a hF)
theorem C.cutA8 {α : Type} {β : Type} {γ : Type} {δ : Type} {ε : Type} {ζ : Type} {η : Type} {θ : Type} {env : α → β → γ → δ → ε → ζ → η → θ → Env} {I : α → β → γ → δ → ε → ζ → η → θ → World → Prop} (a0 : α) (a1 : β) (a2 : γ) (a3 : δ) (a4 : ε) (a5 : ζ) (a6 : η) (a7 : θ) (ks : List Nat) (hs : restrictK ks l some = some (env a0 a1 a2 a3 a4 a5 a6 a7)) (hI : I a0 a1 a2 a3 a4 a5 a6 a7 w) : C n ds (fun a w => ∃ a0, ∃ a1, ∃ a2, ∃ a3, ∃ a4, ∃ a5, ∃ a6, ∃ a7, Fr n ds (env a0 a1 a2 a3 a4 a5 a6 a7) a ∧ I a0 a1 a2 a3 a4 a5 a6 a7 w) l w := fun _ hF => ⟨a0, a1, a2, a3, a4, a5, a6, a7, hF.sub (restrict_env hs), hI⟩
theorem W.cutA9 {α : Type} {β : Type} {γ : Type} {δ : Type} {ε : Type} {ζ : Type} {η : Type} {θ : Type} {ι : Type} {x y : Code} {env : α → β → γ → δ → ε → ζ → η → θ → ι → Env} {I : α → β → γ → δ → ε → ζ → η → θ → ι → World → Prop} (h1 : W P n ds x ⟨(fun a w => ∃ a0, ∃ a1, ∃ a2, ∃ a3, ∃ a4, ∃ a5, ∃ a6, ∃ a7, ∃ a8, Fr n ds (env a0 a1 a2 a3 a4 a5 a6 a7 a8) a ∧ I a0 a1 a2 a3 a4 a5 a6 a7 a8 w), exs, gts, rt, pn, ot⟩ l w) (h2 : ∀ (a0 : α) (a1 : β) (a2 : γ) (a3 : δ) (a4 : ε) (a5 : ζ) (a6 : η) (a7 : θ) (a8 : ι) w, I a0 a1 a2 a3 a4 a5 a6 a7 a8 w → W P n ds y ⟨nrm, exs, gts, rt, pn, ot⟩ (env a0 a1 a2 a3 a4 a5 a6 a7 a8) w) : W P n ds (x.seq y) ⟨nrm, exs, gts, rt, pn, ot⟩ l w :=
  W.seq fun a hF => Code.wp_mono (fun e a w q => by
    cases e with
    | normal => obtain ⟨a0, a1, a2, a3, a4, a5, a6, a7, a8, hF', hI⟩ := q; exact h2 a0 a1 a2 a3 a4 a5 a6 a7 a8 w hI a hF'
    | exit id => exact q
    | goto l => exact q
    | ret => exact q
    | panic c => exact q
    | outgrown => exact q) (h1 a hF)
theorem C.cutA9 {α : Type} {β : Type} {γ : Type} {δ : Type} {ε : Type} {ζ : Type} {η : Type} {θ : Type} {ι : Type} {env : α → β → γ → δ → ε → ζ → η → θ → ι → Env} {I : α → β → γ → δ → ε → ζ → η → θ → ι → World → Prop} (a0 : α) (a1 : β) (a2 : γ) (a3 : δ) (a4 : ε) (a5 : ζ) (a6 : η) (a7 : θ) (a8 : ι) (ks : List Nat) (hs : restrictK ks l some = some (env a0 a1 a2 a3 a4 a5 a6 a7 a8)) (hI : I a0 a1 a2 a3 a4 a5 a6 a7 a8 w) : C n ds (fun a w => ∃ a0, ∃ a1, ∃ a2, ∃ a3, ∃ a4, ∃ a5, ∃ a6, ∃ a7, ∃ a8, Fr n ds (env a0 a1 a2 a3 a4 a5 a6 a7 a8) a ∧ I a0 a1 a2 a3 a4 a5 a6 a7 a8 w) l w := fun _ hF => ⟨a0, a1, a2, a3, a4, a5, a6, a7, a8, hF.sub (restrict_env hs), hI⟩
theorem W.cutA10 {α : Type} {β : Type} {γ : Type} {δ : Type} {ε : Type} {ζ : Type} {η : Type} {θ : Type} {ι : Type} {κ : Type} {x y : Code} {env : α → β → γ → δ → ε → ζ → η → θ → ι → κ → Env} {I : α → β → γ → δ → ε → ζ → η → θ → ι → κ → World → Prop} (h1 : W P n ds x ⟨(fun a w => ∃ a0, ∃ a1, ∃ a2, ∃ a3, ∃ a4, ∃ a5, ∃ a6, ∃ a7, ∃ a8, ∃ a9, Fr n ds (env a0 a1 a2 a3 a4 a5 a6 a7 a8 a9) a ∧ I a0 a1 a2 a3 a4 a5 a6 a7 a8 a9 w), exs, gts, rt, pn, ot⟩ l w) (h2 : ∀ (a0 : α) (a1 : β) (a2 : γ) (a3 : δ) (a4 : ε) (a5 : ζ) (a6 : η) (a7 : θ) (a8 : ι) (a9 : κ) w, I a0 a1 a2 a3 a4 a5 a6 a7 a8 a9 w → W P n ds y ⟨nrm, exs, gts, rt, pn, ot⟩ (env a0 a1 a2 a3 a4 a5 a6 a7 a8 a9) w) : W P n ds (x.seq y) ⟨nrm, exs, gts, rt, pn, ot⟩ l w :=
  W.seq fun a hF => Code.wp_mono (fun e a w q => by
    cases e with
    | normal => obtain ⟨a0, a1, a2, a3, a4, a5, a6, a7, a8, a9, hF', hI⟩ := q; exact h2 a0 a1 a2 a3 a4 a5 a6 a7 a8 a9 w hI a hF'
    | exit id => exact q
    | goto l => exact q
    | ret => exact q
    | panic c => exact q
    | outgrown => exact q) (h1 a hF)
theorem C.cutA10 {α : Type} {β : Type} {γ : Type} {δ : Type} {ε : Type} {ζ : Type} {η : Type} {θ : Type} {ι : Type} {κ : Type} {env : α → β → γ → δ → ε → ζ → η → θ → ι → κ → Env} {I : α → β → γ → δ → ε → ζ → η → θ → ι → κ → World → Prop} (a0 : α) (a1 : β) (a2 : γ) (a3 : δ) (a4 : ε) (a5 : ζ) (a6 : η) (a7 : θ) (a8 : ι) (a9 : κ) (ks : List Nat) (hs : restrictK ks l some = some (env a0 a1 a2 a3 a4 a5 a6 a7 a8 a9)) (hI : I a0 a1 a2 a3 a4 a5 a6 a7 a8 a9 w) : C n ds (fun a w => ∃ a0, ∃ a1, ∃ a2, ∃ a3, ∃ a4, ∃ a5, ∃ a6, ∃ a7, ∃ a8, ∃ a9, Fr n ds (env a0 a1 a2 a3 a4 a5 a6 a7 a8 a9) a ∧ I a0 a1 a2 a3 a4 a5 a6 a7 a8 a9 w) l w := fun _ hF => ⟨a0, a1, a2, a3, a4, a5, a6, a7, a8, a9, hF.sub (restrict_env hs), hI⟩
theorem W.cutA11 {α : Type} {β : Type} {γ : Type} {δ : Type} {ε : Type} {ζ : Type} {η : Type} {θ : Type} {ι : Type} {κ : Type} {ρ₁ : Type} {x y : Code} {env : α → β → γ → δ → ε → ζ → η → θ → ι → κ → ρ₁ → Env} {I : α → β → γ → δ → ε → ζ → η → θ → ι → κ → ρ₁ → World → Prop} (h1 : W P n ds x ⟨(fun a w => ∃ a0, ∃ a1, ∃ a2, ∃ a3, ∃ a4, ∃ a5, ∃ a6, ∃ a7, ∃ a8, ∃ a9, ∃ a10, Fr n ds (env a0 a1 a2 a3 a4 a5 a6 a7 a8 a9 a10) a ∧ I a0 a1 a2 a3 a4 a5 a6 a7 a8 a9 a10 w), exs, gts, rt, pn, ot⟩ l w) (h2 : ∀ (a0 : α) (a1 : β) (a2 : γ) (a3 : δ) (a4 : ε) (a5 : ζ) (a6 : η) (a7 : θ) (a8 : ι) (a9 : κ) (a10 : ρ₁) w, I a0 a1 a2 a3 a4 a5 a6 a7 a8 a9 a10 w → W P n ds y ⟨nrm, exs, gts, rt, pn, ot⟩ (env a0 a1 a2 a3 a4 a5 a6 a7 a8 a9 a10) w) : W P n ds (x.seq y) ⟨nrm, exs, gts, rt, pn, ot⟩ l w :=
  W.seq fun a hF => Code.wp_mono (fun e a w q => by
    cases e with
    | normal => obtain ⟨a0, a1, a2, a3, a4, a5, a6, a7, a8, a9, a10, hF', hI⟩ := q; exact h2 a0 a1 a2 a3 a4 a5 a6 a7 a8 a9 a10 w hI a hF'
    | exit id => exact q
    | goto l => exact q
    | ret => exact q
    | panic c => exact q
    | outgrown => exact q) (h1 a hF)
theorem C.cutA11 {α : Type} {β : Type} {γ : Type} {δ : Type} {ε : Type} {ζ : Type} {η : Type} {θ : Type} {ι : Type} {κ : Type} {ρ₁ : Type} {env : α → β → γ → δ → ε → ζ → η → θ → ι → κ → ρ₁ → Env} {I : α → β → γ → δ → ε → ζ → η → θ → ι → κ → ρ₁ → World → Prop} (a0 : α) (a1 : β) (a2 : γ) (a3 : δ) (a4 : ε) (a5 : ζ) (a6 : η) (a7 : θ) (a8 : ι) (a9 : κ) (a10 : ρ₁) (ks : List Nat) (hs : restrictK ks l some = some (env a0 a1 a2 a3 a4 a5 a6 a7 a8 a9 a10)) (hI : I a0 a1 a2 a3 a4 a5 a6 a7 a8 a9 a10 w) : C n ds (fun a w => ∃ a0, ∃ a1, ∃ a2, ∃ a3, ∃ a4, ∃ a5, ∃ a6, ∃ a7, ∃ a8, ∃ a9, ∃ a10, Fr n ds (env a0 a1 a2 a3 a4 a5 a6 a7 a8 a9 a10) a ∧ I a0 a1 a2 a3 a4 a5 a6 a7 a8 a9 a10 w) l w := fun _ hF => ⟨a0, a1, a2, a3, a4, a5, a6, a7, a8, a9, a10, hF.sub (restrict_env hs), hI⟩
theorem W.cutA12 {α : Type} {β : Type} {γ : Type} {δ : Type} {ε : Type} {ζ : Type} {η : Type} {θ : Type} {ι : Type} {κ : Type} {ρ₁ : Type} {ρ₂ : Type} {x y : Code} {env : α → β → γ → δ → ε → ζ → η → θ → ι → κ → ρ₁ → ρ₂ → Env} {I : α → β → γ → δ → ε → ζ → η → θ → ι → κ → ρ₁ → ρ₂ → World → Prop} (h1 : W P n ds x ⟨(fun a w => ∃ a0, ∃ a1, ∃ a2, ∃ a3, ∃ a4, ∃ a5, ∃ a6, ∃ a7, ∃ a8, ∃ a9, ∃ a10, ∃ a11, Fr n ds (env a0 a1 a2 a3 a4 a5 a6 a7 a8 a9 a10 a11) a ∧ I a0 a1 a2 a3 a4 a5 a6 a7 a8 a9 a10 a11 w), exs, gts, rt, pn, ot⟩ l w) (h2 : ∀ (a0 : α) (a1 : β) (a2 : γ) (a3 : δ) (a4 : ε) (a5 : ζ) (a6 : η) (a7 : θ) (a8 : ι) (a9 : κ) (a10 : ρ₁) (a11 : ρ₂) w, I a0 a1 a2 a3 a4 a5 a6 a7 a8 a9 a10 a11 w → W P n ds y ⟨nrm, exs, gts, rt, pn, ot⟩ (env a0 a1 a2 a3 a4 a5 a6 a7 a8 a9 a10 a11) w) : W P n ds (x.seq y) ⟨nrm, exs, gts, rt, pn, ot⟩ l w :=
  W.seq fun a hF => Code.wp_mono (fun e a w q => by
    cases e with
    | normal => obtain ⟨a0, a1, a2, a3, a4, a5, a6, a7, a8, a9, a10, a11, hF', hI⟩ := q; exact h2 a0 a1 a2 a3 a4 a5 a6 a7 a8 a9 a10 a11 w hI a hF'
    | exit id => exact q
    | goto l => exact q
    | ret => exact q
    | panic c => exact q
    | outgrown => exact q) (h1 a hF)
theorem C.cutA12 {α : Type} {β : Type} {γ : Type} {δ : Type} {ε : Type} {ζ : Type} {η : Type} {θ : Type} {ι : Type} {κ : Type} {ρ₁ : Type} {ρ₂ : Type} {env : α → β → γ → δ → ε → ζ → η → θ → ι → κ → ρ₁ → ρ₂ → Env} {I : α → β → γ → δ → ε → ζ → η → θ → ι → κ → ρ₁ → ρ₂ → World → Prop} (a0 : α) (a1 : β) (a2 : γ) (a3 : δ) (a4 : ε) (a5 : ζ) (a6 : η) (a7 : θ) (a8 : ι) (a9 : κ) (a10 : ρ₁) (a11 : ρ₂) (ks : List Nat) (hs : restrictK ks l some = some (env a0 a1 a2 a3 a4 a5 a6 a7 a8 a9 a10 a11)) (hI : I a0 a1 a2 a3 a4 a5 a6 a7 a8 a9 a10 a11 w) : C n ds (fun a w => ∃ a0, ∃ a1, ∃ a2, ∃ a3, ∃ a4, ∃ a5, ∃ a6, ∃ a7, ∃ a8, ∃ a9, ∃ a10, ∃ a11, Fr n ds (env a0 a1 a2 a3 a4 a5 a6 a7 a8 a9 a10 a11) a ∧ I a0 a1 a2 a3 a4 a5 a6 a7 a8 a9 a10 a11 w) l w := fun _ hF => ⟨a0, a1, a2, a3, a4, a5, a6, a7, a8, a9, a10, a11, hF.sub (restrict_env hs), hI⟩
end
end Go.FL
