/- Printed by this session's own program out of the translation, and by hand. -/
import Derived.Test.YtclokcmgigdjlaaDoorX
set_option linter.unusedVariables false
set_option linter.unusedSimpArgs false
set_option maxRecDepth 4000
namespace Go.Proofs.YtclokcmgigdjlaaDoor
open Go.FL Go.RowKit Go.Proofs

/-! ### Tokens in memory, and what reads them: plain -/
def TkAt (w : World) (N : Nat) (A : Option Addr) (ts : List Tok) : Prop := ts ≠ [] → ∃ b o, A = some ⟨b, o, none⟩ ∧ b < N ∧ Cl w b o (encs ts)
theorem TkAt.kp {w w' : World} {N : Nat} {A : Option Addr} {ts : List Tok} {X : Nat → Prop} (h : TkAt w N A ts) (hK : Kp X w w') (hx : ∀ b, X b → ¬ b < N) : TkAt w' N A ts := fun hne => by
  obtain ⟨b, o, h1, h2, h3⟩ := h hne
  exact ⟨b, o, h1, h2, h3.kp hK (fun hX => hx b hX h2)⟩
theorem TkAt.ext {w w' : World} {N : Nat} {A : Option Addr} {ts : List Tok} (h : TkAt w N A ts) (hE : Ext w w') : TkAt w' N A ts := h.kp hE (fun _ h => h.elim)
theorem TkAt.get {w : World} {N : Nat} {A : Option Addr} {ts : List Tok} {i : Nat} {k : Tok} (h : TkAt w N A ts) (hi : ts[i]? = some k) : ∃ b o, A = some ⟨b, o, none⟩ ∧ b < N ∧ Cl w b (o + i * 3) k.enc := by
  obtain ⟨b, o, h1, h2, h3⟩ := h (by rintro rfl; simp at hi)
  exact ⟨b, o, h1, h2, h3.sub (g := Tok.enc) (fun _ => rfl) hi⟩
def takesB (ts : List Tok) (i : Nat) (k : Int) (s : ByteArray) : Bool := match ts[i]? with
  | some t => decide (t.k = k) && decide (t.t = s)
  | none => false
inductive Res where
  | ok (t : Ex) (a : Nat)
  | bad (e : Int) (a : Nat)
  | oof
def Res.andThen : Res → (Ex → Nat → Res) → Res
  | .ok t a, f => f t a
  | .bad e a, _ => .bad e a
  | .oof, _ => .oof
def firstF (ts : List Tok) (a : Nat) (n : Int) : Option Form := pairsF.find? fun f => decide (f.rank = n) && takesB ts a f.kind f.text
def firstP (ts : List Tok) (a : Nat) : Option Form := prefixesF.find? fun f => takesB ts a f.kind f.text
def ofWordR (s : ByteArray) : Ex × Int := if s = ⟨#[116, 114, 117, 101]⟩ then (.mk 2 1 ⟨#[]⟩ [], 0) else if s = ⟨#[102, 97, 108, 115, 101]⟩ then (.mk 2 0 ⟨#[]⟩ [], 0) else if nameB s = true then (.mk 3 0 s [], 0) else (exNone, 5)
def ofNumberR (s : ByteArray) : Ex × Int := (.mk 1 (numberR s).1 ⟨#[]⟩ [], (numberR s).2)
def atomR (t : Tok) (a : Nat) : Res :=
  if t.k = 1 then (if (ofWordR t.t).2 = 0 then .ok (ofWordR t.t).1 (a + 1) else .bad (ofWordR t.t).2 a)
  else if t.k = 2 then (if (ofNumberR t.t).2 = 0 then .ok (ofNumberR t.t).1 (a + 1) else .bad (ofNumberR t.t).2 a)
  else .bad 5 a
mutual
def rankP (ts : List Tok) : Nat → Int → Nat → Res
  | 0, _, _ => .oof
  | k + 1, n, a =>
    if 6 ≤ n then prefixP ts k a
    else if n = 0 ∧ takesB ts a 1 ⟨#[105, 102]⟩ = true then choiceP ts k (a + 1)
    else (rankP ts k (n + 1) a).andThen fun x a => loopP ts k n x a
def loopP (ts : List Tok) : Nat → Int → Ex → Nat → Res
  | 0, _, _, _ => .oof
  | k + 1, n, x, a => match firstF ts a n with
    | none => .ok x a
    | some f => (rankP ts k (asksR f).2 (a + 1)).andThen fun y a => if n = 0 ∨ n = 3 then .ok (.mk f.op 0 ⟨#[]⟩ [x, y]) a else loopP ts k n (.mk f.op 0 ⟨#[]⟩ [x, y]) a
def choiceP (ts : List Tok) : Nat → Nat → Res
  | 0, _ => .oof
  | k + 1, a => (rankP ts k 0 a).andThen fun x a => if takesB ts a 1 ⟨#[116, 104, 101, 110]⟩ = true then (rankP ts k 0 (a + 1)).andThen fun y a => if takesB ts a 1 ⟨#[101, 108, 115, 101]⟩ = true then (rankP ts k 0 (a + 1)).andThen fun z a => .ok (.mk 17 0 ⟨#[]⟩ [x, y, z]) a else .bad 5 a else .bad 5 a
def prefixP (ts : List Tok) : Nat → Nat → Res
  | 0, _ => .oof
  | k + 1, a => match firstP ts a with
    | some f => (prefixP ts k (a + 1)).andThen fun x a => .ok (.mk f.op 0 ⟨#[]⟩ [x]) a
    | none => if takesB ts a 3 ⟨#[40]⟩ = true then (rankP ts k 0 (a + 1)).andThen fun x a => if takesB ts a 3 ⟨#[41]⟩ = true then .ok x (a + 1) else .bad 5 a
      else match ts[a]? with
        | none => .bad 5 a
        | some t => atomR t a
end
theorem numberR_range (s : ByteArray) : -9223372036854775808 ≤ (numberR s).1 ∧ (numberR s).1 ≤ 9223372036854775807 := by
  unfold numberR
  split
  · decide
  · cases hp : Lib.parseIntB 64 s.data.toList with
    | ok v =>
      dsimp only
      unfold Lib.parseIntB at hp
      split at hp
      · cases hp
      · simp only at hp
        split at hp
        · cases hp
        · cases hp
        · split at hp
          · cases hp
          · split at hp
            · cases hp
            · rename_i h1 h2
              injection hp with hp
              subst hp
              split <;> simp_all <;> omega
    | _ => decide

/-- (*belfry.exprs.reader).takes -/
theorem takes_out (r : Nat) (A : Option Addr) (n c at_ : Nat) (k : Int) (s : ByteArray) (w : World) (hB : Blk w r [.slice A n c, .int .i64 (at_ : Int)] 67) (hle : n ≤ at_) (hn : at_ ≤ 1000000000) :
    Calls Tryd.prog 40 #[.pointer (some ⟨r, 0, none⟩), .int .u8 k, .string s] w fun e w' => e = .returned (.bool false) ∧ Ext w w' := by
  refine calls_of Tryd.func40 rfl Tryd.ntmps40 rfl ?_
  have hEw := Kp.refl (fun _ => False) w
  refine W.seq ?_
  refine W.region ?_
  refine SQ.op rfl rfl rfl (r_assign rfl rfl) ?_
  refine SQ.nil ?_
  refine C.code ?_
  refine W.seq ?_
  refine W.quiet mixed (by kernel_rfl) ?_
  refine QZ.op rfl rfl rfl (fun w' hE => r_move rfl rfl) ?_
  refine QZ.op rfl rfl rfl (fun w' hE => r_nilCheck rfl rfl) ?_
  refine QZ.op rfl rfl rfl (fun w' hE => r_fieldAddr rfl rfl Tryd.underlying67 rfl Tryd.sizeOf3 rfl) ?_
  refine QZ.op rfl rfl rfl (fun w' hE => r_load rfl rfl Tryd.isAgg3 (hE.cell (by first | exact hB.cell rfl | assumption))) ?_
  refine QZ.op rfl rfl rfl (fun w' hE => r_move rfl rfl) ?_
  refine QZ.op rfl rfl rfl (fun w' hE => r_nilCheck rfl rfl) ?_
  refine QZ.op rfl rfl rfl (fun w' hE => r_fieldAddr rfl rfl Tryd.underlying67 rfl Tryd.sizeOf37 rfl) ?_
  refine QZ.op rfl rfl rfl (fun w' hE => r_load rfl rfl Tryd.isAgg37 (hE.cell (by first | exact hB.cell rfl | assumption))) ?_
  refine QZ.op rfl rfl rfl (fun w' hE => r_lenSlice rfl rfl Tryd.underlying37) ?_
  refine QZ.op rfl rfl rfl (fun w' hE => r_lss rfl rfl rfl) ?_
  refine QZ.opD false rfl rfl rfl (fun w' hE => r_move rfl rfl) (by simp; omega) ?_
  refine QZ.skip rfl rfl rfl rfl rfl rfl rfl ?_
  refine QZ.skip rfl rfl rfl rfl rfl rfl rfl ?_
  refine QZ.skip rfl rfl rfl rfl rfl rfl rfl ?_
  refine QZ.skip rfl rfl rfl rfl rfl rfl rfl ?_
  refine QZ.skip rfl rfl rfl rfl rfl rfl rfl ?_
  refine QZ.skip rfl rfl rfl rfl rfl rfl rfl ?_
  refine QZ.skip rfl rfl rfl rfl rfl rfl rfl ?_
  refine QZ.skip rfl rfl rfl rfl rfl rfl rfl ?_
  refine QZ.skip rfl rfl rfl rfl rfl rfl rfl ?_
  refine QZ.skip rfl rfl rfl rfl rfl rfl rfl ?_
  refine QZ.skip rfl rfl rfl rfl rfl rfl rfl ?_
  refine QZ.skip rfl rfl rfl rfl rfl rfl rfl ?_
  refine QZ.skip rfl rfl rfl rfl rfl rfl rfl ?_
  refine QZ.op rfl rfl rfl (fun w' hE => r_pick_f rfl rfl rfl) ?_
  refine QZ.op rfl rfl rfl (fun w' hE => r_move rfl rfl) ?_
  refine QZ.skip rfl rfl rfl rfl rfl rfl rfl ?_
  refine QZ.skip rfl rfl rfl rfl rfl rfl rfl ?_
  refine QZ.skip rfl rfl rfl rfl rfl rfl rfl ?_
  refine QZ.skip rfl rfl rfl rfl rfl rfl rfl ?_
  refine QZ.skip rfl rfl rfl rfl rfl rfl rfl ?_
  refine QZ.skip rfl rfl rfl rfl rfl rfl rfl ?_
  refine QZ.skip rfl rfl rfl rfl rfl rfl rfl ?_
  refine QZ.skip rfl rfl rfl rfl rfl rfl rfl ?_
  refine QZ.skip rfl rfl rfl rfl rfl rfl rfl ?_
  refine QZ.skip rfl rfl rfl rfl rfl rfl rfl ?_
  refine QZ.skip rfl rfl rfl rfl rfl rfl rfl ?_
  refine QZ.skip rfl rfl rfl rfl rfl rfl rfl ?_
  refine QZ.skip rfl rfl rfl rfl rfl rfl rfl ?_
  refine QZ.op rfl rfl rfl (fun w' hE => r_pick_f rfl rfl rfl) ?_
  refine QZ.op rfl rfl rfl (fun w' hE => r_assign rfl rfl) ?_
  refine QZ.nil ?_
  intro wv1 hE2
  replace hB := hB.ext hE2
  replace hEw := hEw.ext hE2
  refine C.code ?_
  refine W.seq ?_
  refine W.seq ?_
  refine W.region ?_
  refine SQ.op rfl rfl rfl (r_move rfl rfl) ?_
  refine SQ.nil ?_
  refine C.code ?_
  refine W.cond_f rfl ?_
  refine W.skip ?_
  refine C.code ?_
  refine W.seq ?_
  refine W.region ?_
  refine SQ.op rfl rfl rfl (r_move rfl rfl) ?_
  refine SQ.op rfl rfl rfl (r_assign rfl rfl) ?_
  refine SQ.nil ?_
  refine C.code ?_
  refine W.ret ?_
  refine C.ret1 Tryd.results40 rfl ?_
  exact ⟨rfl, hEw⟩

/-- (*belfry.exprs.reader).takes -/
theorem takes_in (r b o : Nat) (n c at_ : Nat) (k q z : Int) (s t : ByteArray) (w : World)
    (hB : Blk w r [.slice (some ⟨b, o, none⟩) n c, .int .i64 (at_ : Int)] 67) (hle : at_ < n) (hn : at_ ≤ 1000000000) (hT : Cl w b (o + at_ * 3) [.int .u8 q, .string t, .int .i64 z]) (hbr : b ≠ r) :
    Calls Tryd.prog 40 #[.pointer (some ⟨r, 0, none⟩), .int .u8 k, .string s] w fun e w' => e = .returned (.bool (decide (q = k) && decide (t = s))) ∧ Blk w' r [.slice (some ⟨b, o, none⟩) n c, .int .i64 (if (decide (q = k) && decide (t = s)) = true then at_ + 1 else at_ : Int)] 67 ∧ Kp (fun b => b = r) w w' := by
  refine calls_of Tryd.func40 rfl Tryd.ntmps40 rfl ?_
  have hKw := Kp.refl (fun b => b = r) w
  refine W.seq ?_
  refine W.region ?_
  refine SQ.op rfl rfl rfl (r_assign rfl rfl) ?_
  refine SQ.nil ?_
  refine C.code ?_
  refine W.seq ?_
  refine W.quiet mixed (by kernel_rfl) ?_
  refine QZ.op rfl rfl rfl (fun w' hE => r_move rfl rfl) ?_
  refine QZ.op rfl rfl rfl (fun w' hE => r_nilCheck rfl rfl) ?_
  refine QZ.op rfl rfl rfl (fun w' hE => r_fieldAddr rfl rfl Tryd.underlying67 rfl Tryd.sizeOf3 rfl) ?_
  refine QZ.op rfl rfl rfl (fun w' hE => r_load rfl rfl Tryd.isAgg3 (hE.cell (by first | exact hT.cell rfl | exact hB.cell rfl | assumption))) ?_
  refine QZ.op rfl rfl rfl (fun w' hE => r_move rfl rfl) ?_
  refine QZ.op rfl rfl rfl (fun w' hE => r_nilCheck rfl rfl) ?_
  refine QZ.op rfl rfl rfl (fun w' hE => r_fieldAddr rfl rfl Tryd.underlying67 rfl Tryd.sizeOf37 rfl) ?_
  refine QZ.op rfl rfl rfl (fun w' hE => r_load rfl rfl Tryd.isAgg37 (hE.cell (by first | exact hT.cell rfl | exact hB.cell rfl | assumption))) ?_
  refine QZ.op rfl rfl rfl (fun w' hE => r_lenSlice rfl rfl Tryd.underlying37) ?_
  refine QZ.op rfl rfl rfl (fun w' hE => r_lss rfl rfl rfl) ?_
  refine QZ.opD true rfl rfl rfl (fun w' hE => r_move rfl rfl) (by simp; omega) ?_
  refine QZ.guarded rfl rfl rfl rfl rfl ?_
  refine QZ.op rfl rfl rfl (fun w' hE => r_move rfl rfl) ?_
  refine QZ.guarded rfl rfl rfl rfl rfl ?_
  refine QZ.op rfl rfl rfl (fun w' hE => r_nilCheck rfl rfl) ?_
  refine QZ.guarded rfl rfl rfl rfl rfl ?_
  refine QZ.op rfl rfl rfl (fun w' hE => r_fieldAddr rfl rfl Tryd.underlying67 rfl Tryd.sizeOf37 rfl) ?_
  refine QZ.guarded rfl rfl rfl rfl rfl ?_
  refine QZ.op rfl rfl rfl (fun w' hE => r_load rfl rfl Tryd.isAgg37 (hE.cell (by first | exact hT.cell rfl | exact hB.cell rfl | assumption))) ?_
  refine QZ.guarded rfl rfl rfl rfl rfl ?_
  refine QZ.op rfl rfl rfl (fun w' hE => r_move rfl rfl) ?_
  refine QZ.guarded rfl rfl rfl rfl rfl ?_
  refine QZ.op rfl rfl rfl (fun w' hE => r_nilCheck rfl rfl) ?_
  refine QZ.guarded rfl rfl rfl rfl rfl ?_
  refine QZ.op rfl rfl rfl (fun w' hE => r_fieldAddr rfl rfl Tryd.underlying67 rfl Tryd.sizeOf3 rfl) ?_
  refine QZ.guarded rfl rfl rfl rfl rfl ?_
  refine QZ.op rfl rfl rfl (fun w' hE => r_load rfl rfl Tryd.isAgg3 (hE.cell (by first | exact hT.cell rfl | exact hB.cell rfl | assumption))) ?_
  refine QZ.guarded rfl rfl rfl rfl rfl ?_
  refine QZ.op rfl rfl rfl (fun w' hE => r_indexAddr rfl rfl rfl Tryd.underlying37 Tryd.sizeOf57 rfl (by omega)) ?_
  refine QZ.guarded rfl rfl rfl rfl rfl ?_
  refine QZ.op rfl rfl rfl (fun w' hE => r_fieldAddr rfl rfl Tryd.underlying57 rfl Tryd.sizeOf5 rfl) ?_
  refine QZ.guarded rfl rfl rfl rfl rfl ?_
  refine QZ.op rfl rfl rfl (fun w' hE => r_load rfl rfl Tryd.isAgg5 (hE.cell (by first | exact hT.cell rfl | exact hB.cell rfl | assumption))) ?_
  refine QZ.guarded rfl rfl rfl rfl rfl ?_
  refine QZ.op rfl rfl rfl (fun w' hE => r_move rfl rfl) ?_
  refine QZ.guarded rfl rfl rfl rfl rfl ?_
  refine QZ.op rfl rfl rfl (fun w' hE => r_eqlInt rfl rfl rfl) ?_
  refine QZ.op rfl rfl rfl (fun w' hE => r_pick_t rfl rfl rfl) ?_
  refine QZ.opB rfl rfl rfl (fun w' hE => r_move rfl rfl) ?_ ?_
  · intro hb1_25
    try simp only [decide_eq_true_eq, decide_eq_false_iff_not, Bool.not_eq_true', Bool.not_eq_false', Bool.not_true, Bool.not_false, Bool.not_eq_true, Bool.not_eq_false] at hb1_25
    refine QZ.guarded rfl rfl rfl rfl rfl ?_
    refine QZ.op rfl rfl rfl (fun w' hE => r_move rfl rfl) ?_
    refine QZ.guarded rfl rfl rfl rfl rfl ?_
    refine QZ.op rfl rfl rfl (fun w' hE => r_nilCheck rfl rfl) ?_
    refine QZ.guarded rfl rfl rfl rfl rfl ?_
    refine QZ.op rfl rfl rfl (fun w' hE => r_fieldAddr rfl rfl Tryd.underlying67 rfl Tryd.sizeOf37 rfl) ?_
    refine QZ.guarded rfl rfl rfl rfl rfl ?_
    refine QZ.op rfl rfl rfl (fun w' hE => r_load rfl rfl Tryd.isAgg37 (hE.cell (by first | exact hT.cell rfl | exact hB.cell rfl | assumption))) ?_
    refine QZ.guarded rfl rfl rfl rfl rfl ?_
    refine QZ.op rfl rfl rfl (fun w' hE => r_move rfl rfl) ?_
    refine QZ.guarded rfl rfl rfl rfl rfl ?_
    refine QZ.op rfl rfl rfl (fun w' hE => r_nilCheck rfl rfl) ?_
    refine QZ.guarded rfl rfl rfl rfl rfl ?_
    refine QZ.op rfl rfl rfl (fun w' hE => r_fieldAddr rfl rfl Tryd.underlying67 rfl Tryd.sizeOf3 rfl) ?_
    refine QZ.guarded rfl rfl rfl rfl rfl ?_
    refine QZ.op rfl rfl rfl (fun w' hE => r_load rfl rfl Tryd.isAgg3 (hE.cell (by first | exact hT.cell rfl | exact hB.cell rfl | assumption))) ?_
    refine QZ.guarded rfl rfl rfl rfl rfl ?_
    refine QZ.op rfl rfl rfl (fun w' hE => r_indexAddr rfl rfl rfl Tryd.underlying37 Tryd.sizeOf57 rfl (by omega)) ?_
    refine QZ.guarded rfl rfl rfl rfl rfl ?_
    refine QZ.op rfl rfl rfl (fun w' hE => r_fieldAddr rfl rfl Tryd.underlying57 rfl Tryd.sizeOf9 rfl) ?_
    refine QZ.guarded rfl rfl rfl rfl rfl ?_
    refine QZ.op rfl rfl rfl (fun w' hE => r_load rfl rfl Tryd.isAgg9 (hE.cell (by first | exact hT.cell rfl | exact hB.cell rfl | assumption))) ?_
    refine QZ.guarded rfl rfl rfl rfl rfl ?_
    refine QZ.op rfl rfl rfl (fun w' hE => r_move rfl rfl) ?_
    refine QZ.guarded rfl rfl rfl rfl rfl ?_
    refine QZ.op rfl rfl rfl (fun w' hE => r_eqlStr rfl rfl rfl) ?_
    refine QZ.op rfl rfl rfl (fun w' hE => r_pick_t rfl rfl rfl) ?_
    refine QZ.op rfl rfl rfl (fun w' hE => r_assign rfl rfl) ?_
    refine QZ.nil ?_
    intro wv1 hE2
    replace hB := hB.ext hE2
    replace hT := hT.ext hE2
    replace hKw := hKw.ext hE2
    refine C.code ?_
    refine W.seq ?_
    refine W.seq ?_
    refine W.region ?_
    refine SQ.op rfl rfl rfl (r_move rfl rfl) ?_
    refine SQ.nil ?_
    refine C.code ?_
    refine W.cond rfl ?_ ?_
    · intro hc3
      try simp only [decide_eq_true_eq, decide_eq_false_iff_not, Bool.not_eq_true', Bool.not_eq_false', Bool.not_true, Bool.not_false, Bool.not_eq_true, Bool.not_eq_false] at hc3
      refine W.region ?_
      refine SQ.op rfl rfl rfl (r_move rfl rfl) ?_
      refine SQ.op rfl rfl rfl (r_nilCheck rfl rfl) ?_
      refine SQ.op rfl rfl rfl (r_fieldAddr rfl rfl Tryd.underlying67 rfl Tryd.sizeOf3 rfl) ?_
      refine SQ.op rfl rfl rfl (r_load rfl rfl Tryd.isAgg3 (by first | exact hT.cell rfl | exact hB.cell rfl | assumption)) ?_
      refine SQ.op rfl rfl rfl (r_add rfl rfl rfl (w64 (by omega))) ?_
      refine SQ.op rfl rfl rfl (r_nilCheck rfl rfl) ?_
      refine SQ.op rfl rfl rfl (r_fieldAddr rfl rfl Tryd.underlying67 rfl Tryd.sizeOf3 rfl) ?_
      refine SQ.store rfl rfl rfl rfl rfl Tryd.sizeOf3 rfl hB rfl ?_
      intro wv4 hS6 hK5
      have hsz7 := hK5.size
      replace hT := hT.kp hK5 (by omega)
      replace hB : Blk wv4 _ _ _ := hS6
      clear hS6
      replace hKw := hKw.both hK5
      refine SQ.nil ?_
      refine C.code ?_
      refine W.seq ?_
      refine W.region ?_
      refine SQ.op rfl rfl rfl (r_move rfl rfl) ?_
      refine SQ.op rfl rfl rfl (r_assign rfl rfl) ?_
      refine SQ.nil ?_
      refine C.code ?_
      refine W.ret ?_
      refine C.ret1 Tryd.results40 rfl ?_
      simp_all
    · intro hc3
      try simp only [decide_eq_true_eq, decide_eq_false_iff_not, Bool.not_eq_true', Bool.not_eq_false', Bool.not_true, Bool.not_false, Bool.not_eq_true, Bool.not_eq_false] at hc3
      refine W.skip ?_
      refine C.code ?_
      refine W.seq ?_
      refine W.region ?_
      refine SQ.op rfl rfl rfl (r_move rfl rfl) ?_
      refine SQ.op rfl rfl rfl (r_assign rfl rfl) ?_
      refine SQ.nil ?_
      refine C.code ?_
      refine W.ret ?_
      refine C.ret1 Tryd.results40 rfl ?_
      simp_all
  · intro hb1_25
    try simp only [decide_eq_true_eq, decide_eq_false_iff_not, Bool.not_eq_true', Bool.not_eq_false', Bool.not_true, Bool.not_false, Bool.not_eq_true, Bool.not_eq_false] at hb1_25
    refine QZ.skip rfl rfl rfl rfl rfl rfl rfl ?_
    refine QZ.skip rfl rfl rfl rfl rfl rfl rfl ?_
    refine QZ.skip rfl rfl rfl rfl rfl rfl rfl ?_
    refine QZ.skip rfl rfl rfl rfl rfl rfl rfl ?_
    refine QZ.skip rfl rfl rfl rfl rfl rfl rfl ?_
    refine QZ.skip rfl rfl rfl rfl rfl rfl rfl ?_
    refine QZ.skip rfl rfl rfl rfl rfl rfl rfl ?_
    refine QZ.skip rfl rfl rfl rfl rfl rfl rfl ?_
    refine QZ.skip rfl rfl rfl rfl rfl rfl rfl ?_
    refine QZ.skip rfl rfl rfl rfl rfl rfl rfl ?_
    refine QZ.skip rfl rfl rfl rfl rfl rfl rfl ?_
    refine QZ.skip rfl rfl rfl rfl rfl rfl rfl ?_
    refine QZ.skip rfl rfl rfl rfl rfl rfl rfl ?_
    refine QZ.op rfl rfl rfl (fun w' hE => r_pick_f rfl rfl rfl) ?_
    refine QZ.op rfl rfl rfl (fun w' hE => r_assign rfl rfl) ?_
    refine QZ.nil ?_
    intro wv8 hE9
    replace hB := hB.ext hE9
    replace hT := hT.ext hE9
    replace hKw := hKw.ext hE9
    refine C.code ?_
    refine W.seq ?_
    refine W.seq ?_
    refine W.region ?_
    refine SQ.op rfl rfl rfl (r_move rfl rfl) ?_
    refine SQ.nil ?_
    refine C.code ?_
    refine W.cond_f rfl ?_
    refine W.skip ?_
    refine C.code ?_
    refine W.seq ?_
    refine W.region ?_
    refine SQ.op rfl rfl rfl (r_move rfl rfl) ?_
    refine SQ.op rfl rfl rfl (r_assign rfl rfl) ?_
    refine SQ.nil ?_
    refine C.code ?_
    refine W.ret ?_
    refine C.ret1 Tryd.results40 rfl ?_
    simp_all

theorem takes_spec (ts : List Tok) (r N : Nat) (A : Option Addr) (c at_ : Nat) (k : Int) (s : ByteArray) (w : World) (hB : Blk w r [.slice A ts.length c, .int .i64 (at_ : Int)] 67) (hK : TkAt w N A ts) (hN : N ≤ r) (hle : at_ ≤ ts.length) (hn : ts.length ≤ 1000000000) :
    Calls Tryd.prog 40 #[.pointer (some ⟨r, 0, none⟩), .int .u8 k, .string s] w fun e w' => e = .returned (.bool (takesB ts at_ k s)) ∧ Blk w' r [.slice A ts.length c, .int .i64 ((if takesB ts at_ k s = true then at_ + 1 else at_ : Nat) : Int)] 67 ∧ Kp (fun b => b = r) w w' := by
  by_cases h : at_ < ts.length
  · have hg := List.getElem?_eq_getElem h
    obtain ⟨b, o, rfl, hb, hC⟩ := hK.get hg
    refine (takes_in r b o ts.length c at_ k _ _ s _ w hB h (by omega) hC (by omega)).mono fun e w' ⟨h1, h2, h3⟩ => ?_
    have e1 : takesB ts at_ k s = (decide (ts[at_].k = k) && decide (ts[at_].t = s)) := by unfold takesB; rw [hg]
    rw [e1]
    refine ⟨h1, ?_, h3⟩
    have e2 : ((if (decide (ts[at_].k = k) && decide (ts[at_].t = s)) = true then at_ + 1 else at_ : Nat) : Int) = (if (decide (ts[at_].k = k) && decide (ts[at_].t = s)) = true then at_ + 1 else at_ : Int) := by split <;> rfl
    rw [e2]; exact h2
  · refine (takes_out r A ts.length c at_ k s w hB (by omega) (by omega)).mono fun e w' ⟨h1, h2⟩ => ?_
    have e1 : takesB ts at_ k s = false := by unfold takesB; rw [List.getElem?_eq_none (by omega)]
    rw [e1]
    exact ⟨h1, by simpa using hB.ext h2, h2.to _⟩

/-- belfry.exprs.ofWord -/
theorem exOfWord_spec (s : ByteArray) (hs : s.size ≤ 1000000000000) (w : World) :
    Calls Tryd.prog 59 #[.string s] w fun e w' => e = .returned (.tuple #[.agg (List.toArray ((ofWordR s).1.cs none 0)), .int .i64 (ofWordR s).2]) ∧ Ext w w' := by
  refine calls_of Tryd.func59 rfl Tryd.ntmps59 rfl ?_
  have hEw := Kp.refl (fun _ => False) w
  refine W.seq ?_
  refine W.region ?_
  have hsz5 := hEw.size
  refine SQ.new (v := (fun nb => .pointer (some ⟨nb, 0, none⟩))) rfl rfl rfl (r_alloc rfl Tryd.zeroValue25) ?_
  intro nb2 wv1 hge2 hlt3 hB2 hE4
  replace hEw := hEw.ext hE4
  replace hB2 : Blk wv1 nb2 _ _ := hB2
  refine SQ.op rfl rfl rfl (r_assign rfl rfl) ?_
  refine SQ.nil ?_
  refine C.code ?_
  refine W.seq ?_
  refine W.block ?_
  refine W.seq ?_
  refine W.region ?_
  refine SQ.op rfl rfl rfl (r_move rfl rfl) ?_
  refine SQ.op rfl rfl rfl (r_eqlStr rfl rfl rfl) ?_
  refine SQ.op rfl rfl rfl (r_assign rfl rfl) ?_
  refine SQ.nil ?_
  refine C.code ?_
  refine W.cond rfl ?_ ?_
  · intro hc6
    try simp only [decide_eq_true_eq, decide_eq_false_iff_not, Bool.not_eq_true', Bool.not_eq_false', Bool.not_true, Bool.not_false, Bool.not_eq_true, Bool.not_eq_false] at hc6
    refine W.seq ?_
    refine W.region ?_
    refine SQ.op rfl rfl rfl (r_build (pl := [(0, 1), (1, 1), (2, 1), (3, 1)]) rfl rfl Tryd.underlying25 Tryd.zeroValue25 (fun _ => by kernel_rfl) rfl rfl) ?_
    refine SQ.storeA rfl rfl rfl rfl rfl Tryd.sizeOf25 rfl hB2 ⟨rfl, rfl⟩ ?_
    intro wv7 hS9 hK8
    have hsz10 := hK8.size
    replace hB2 : Blk wv7 _ _ _ := hS9
    clear hS9
    replace hEw := hEw.new hK8 (by intro b hb; subst hb; omega)
    refine SQ.op rfl rfl rfl (r_assign rfl rfl) ?_
    refine SQ.nil ?_
    refine C.code ?_
    refine W.ret ?_
    refine C.retL (vs := [_, _]) Tryd.results59 ⟨⟨_, rfl, ld_agg Tryd.isAgg25 Tryd.sizeOf25 hB2 rfl⟩, rfl, trivial⟩ ?_
    refine ⟨?_, hEw⟩
    unfold ofWordR
    first
      | (rw [if_pos (by assumption)]; rfl)
      | (rw [if_neg (by assumption), if_pos (by assumption)]; rfl)
      | (rw [if_neg (by assumption), if_neg (by assumption), if_pos (by assumption)]; rfl)
      | (rw [if_neg (by assumption), if_neg (by assumption), if_neg (by simp [*])]; rfl)
  · intro hc6
    try simp only [decide_eq_true_eq, decide_eq_false_iff_not, Bool.not_eq_true', Bool.not_eq_false', Bool.not_true, Bool.not_false, Bool.not_eq_true, Bool.not_eq_false] at hc6
    refine W.seq ?_
    refine W.region ?_
    refine SQ.op rfl rfl rfl (r_move rfl rfl) ?_
    refine SQ.op rfl rfl rfl (r_eqlStr rfl rfl rfl) ?_
    refine SQ.op rfl rfl rfl (r_assign rfl rfl) ?_
    refine SQ.nil ?_
    refine C.code ?_
    refine W.cond rfl ?_ ?_
    · intro hc11
      try simp only [decide_eq_true_eq, decide_eq_false_iff_not, Bool.not_eq_true', Bool.not_eq_false', Bool.not_true, Bool.not_false, Bool.not_eq_true, Bool.not_eq_false] at hc11
      refine W.seq ?_
      refine W.region ?_
      refine SQ.op rfl rfl rfl (r_build (pl := [(0, 1), (1, 1), (2, 1), (3, 1)]) rfl rfl Tryd.underlying25 Tryd.zeroValue25 (fun _ => by kernel_rfl) rfl rfl) ?_
      refine SQ.storeA rfl rfl rfl rfl rfl Tryd.sizeOf25 rfl hB2 ⟨rfl, rfl⟩ ?_
      intro wv12 hS14 hK13
      have hsz15 := hK13.size
      replace hB2 : Blk wv12 _ _ _ := hS14
      clear hS14
      replace hEw := hEw.new hK13 (by intro b hb; subst hb; omega)
      refine SQ.op rfl rfl rfl (r_assign rfl rfl) ?_
      refine SQ.nil ?_
      refine C.code ?_
      refine W.ret ?_
      refine C.retL (vs := [_, _]) Tryd.results59 ⟨⟨_, rfl, ld_agg Tryd.isAgg25 Tryd.sizeOf25 hB2 rfl⟩, rfl, trivial⟩ ?_
      refine ⟨?_, hEw⟩
      unfold ofWordR
      first
        | (rw [if_pos (by assumption)]; rfl)
        | (rw [if_neg (by assumption), if_pos (by assumption)]; rfl)
        | (rw [if_neg (by assumption), if_neg (by assumption), if_pos (by assumption)]; rfl)
        | (rw [if_neg (by assumption), if_neg (by assumption), if_neg (by simp [*])]; rfl)
    · intro hc11
      try simp only [decide_eq_true_eq, decide_eq_false_iff_not, Bool.not_eq_true', Bool.not_eq_false', Bool.not_true, Bool.not_false, Bool.not_eq_true, Bool.not_eq_false] at hc11
      refine W.seq ?_
      refine W.region ?_
      refine SQ.op rfl rfl rfl (r_move rfl rfl) ?_
      have hsz16 := hEw.size
      refine SQ.call rfl rfl rfl (rc_func rfl rfl Tryd.call45) (Name_spec s hs _) ?_
      rintro _ wv17 ⟨rfl, hE18⟩
      refine ⟨_, rfl, ?_⟩
      replace hB2 := hB2.ext hE18
      replace hEw := hEw.ext hE18
      refine SQ.op rfl rfl rfl (r_assign rfl rfl) ?_
      refine SQ.nil ?_
      refine C.code ?_
      refine W.cond rfl ?_ ?_
      · intro hc19
        try simp only [decide_eq_true_eq, decide_eq_false_iff_not, Bool.not_eq_true', Bool.not_eq_false', Bool.not_true, Bool.not_false, Bool.not_eq_true, Bool.not_eq_false] at hc19
        refine W.seq ?_
        refine W.region ?_
        refine SQ.op rfl rfl rfl (r_move rfl rfl) ?_
        refine SQ.op rfl rfl rfl (r_build (pl := [(0, 1), (1, 1), (2, 1), (3, 1)]) rfl rfl Tryd.underlying25 Tryd.zeroValue25 (fun _ => by kernel_rfl) rfl rfl) ?_
        refine SQ.storeA rfl rfl rfl rfl rfl Tryd.sizeOf25 rfl hB2 ⟨rfl, rfl⟩ ?_
        intro wv20 hS22 hK21
        have hsz23 := hK21.size
        replace hB2 : Blk wv20 _ _ _ := hS22
        clear hS22
        replace hEw := hEw.new hK21 (by intro b hb; subst hb; omega)
        refine SQ.op rfl rfl rfl (r_assign rfl rfl) ?_
        refine SQ.nil ?_
        refine C.code ?_
        refine W.ret ?_
        refine C.retL (vs := [_, _]) Tryd.results59 ⟨⟨_, rfl, ld_agg Tryd.isAgg25 Tryd.sizeOf25 hB2 rfl⟩, rfl, trivial⟩ ?_
        refine ⟨?_, hEw⟩
        unfold ofWordR
        first
          | (rw [if_pos (by assumption)]; rfl)
          | (rw [if_neg (by assumption), if_pos (by assumption)]; rfl)
          | (rw [if_neg (by assumption), if_neg (by assumption), if_pos (by assumption)]; rfl)
          | (rw [if_neg (by assumption), if_neg (by assumption), if_neg (by simp [*])]; rfl)
      · intro hc19
        try simp only [decide_eq_true_eq, decide_eq_false_iff_not, Bool.not_eq_true', Bool.not_eq_false', Bool.not_true, Bool.not_false, Bool.not_eq_true, Bool.not_eq_false] at hc19
        refine W.skip ?_
        refine C.code ?_
        refine W.seq ?_
        refine W.region ?_
        refine SQ.op rfl rfl rfl (r_build (pl := [(0, 1), (1, 1), (2, 1), (3, 1)]) rfl rfl Tryd.underlying25 Tryd.zeroValue25 (fun _ => by kernel_rfl) rfl rfl) ?_
        refine SQ.storeA rfl rfl rfl rfl rfl Tryd.sizeOf25 rfl hB2 ⟨rfl, rfl⟩ ?_
        intro wv24 hS26 hK25
        have hsz27 := hK25.size
        replace hB2 : Blk wv24 _ _ _ := hS26
        clear hS26
        replace hEw := hEw.new hK25 (by intro b hb; subst hb; omega)
        refine SQ.op rfl rfl rfl (r_assign rfl rfl) ?_
        refine SQ.nil ?_
        refine C.code ?_
        refine W.ret ?_
        refine C.retL (vs := [_, _]) Tryd.results59 ⟨⟨_, rfl, ld_agg Tryd.isAgg25 Tryd.sizeOf25 hB2 rfl⟩, rfl, trivial⟩ ?_
        refine ⟨?_, hEw⟩
        unfold ofWordR
        first
          | (rw [if_pos (by assumption)]; rfl)
          | (rw [if_neg (by assumption), if_pos (by assumption)]; rfl)
          | (rw [if_neg (by assumption), if_neg (by assumption), if_pos (by assumption)]; rfl)
          | (rw [if_neg (by assumption), if_neg (by assumption), if_neg (by simp [*])]; rfl)

/-- belfry.exprs.ofNumber -/
theorem exOfNumber_spec (s : ByteArray) (hs : s.size ≤ 1000000000000) (w : World) (hG : Gl w) :
    Calls Tryd.prog 60 #[.string s] w fun e w' => e = .returned (.tuple #[.agg (List.toArray ((ofNumberR s).1.cs none 0)), .int .i64 (ofNumberR s).2]) ∧ Ext w w' := by
  refine calls_of Tryd.func60 rfl Tryd.ntmps60 rfl ?_
  have hEw := Kp.refl (fun _ => False) w
  refine W.seq ?_
  refine W.region ?_
  have hsz5 := hEw.size
  refine SQ.new (v := (fun nb => .pointer (some ⟨nb, 0, none⟩))) rfl rfl rfl (r_alloc rfl Tryd.zeroValue25) ?_
  intro nb2 wv1 hge2 hlt3 hB2 hE4
  have hge_hG_hB2 := Nat.le_trans hG.size hge2
  replace hG := hG.ext hE4
  replace hEw := hEw.ext hE4
  replace hB2 : Blk wv1 nb2 _ _ := hB2
  refine SQ.op rfl rfl rfl (r_assign rfl rfl) ?_
  refine SQ.nil ?_
  refine C.code ?_
  refine W.seq ?_
  refine W.region ?_
  refine SQ.op rfl rfl rfl (r_move rfl rfl) ?_
  have hsz6 := hEw.size
  refine SQ.call rfl rfl rfl (rc_func rfl rfl Tryd.call70) (Number_spec s hs _ hG) ?_
  rintro _ wv7 ⟨rfl, hE8⟩
  refine ⟨_, rfl, ?_⟩
  replace hG := hG.ext hE8
  replace hB2 := hB2.ext hE8
  replace hEw := hEw.ext hE8
  refine SQ.op rfl rfl rfl (r_move rfl rfl) ?_
  refine SQ.op rfl rfl rfl (r_extract rfl rfl rfl) ?_
  refine SQ.op rfl rfl rfl (r_extract rfl rfl rfl) ?_
  refine SQ.op rfl rfl rfl (r_assign rfl rfl) ?_
  refine SQ.op rfl rfl rfl (r_assign rfl rfl) ?_
  refine SQ.nil ?_
  refine C.code ?_
  refine W.seq ?_
  refine W.region ?_
  refine SQ.op rfl rfl rfl (r_move rfl rfl) ?_
  refine SQ.op rfl rfl rfl (r_build (pl := [(0, 1), (1, 1), (2, 1), (3, 1)]) rfl rfl Tryd.underlying25 Tryd.zeroValue25 (fun _ => by kernel_rfl) rfl rfl) ?_
  refine SQ.op rfl rfl rfl (r_move rfl rfl) ?_
  refine SQ.storeA rfl rfl rfl rfl rfl Tryd.sizeOf25 rfl hB2 ⟨rfl, rfl⟩ ?_
  intro wv9 hS11 hK10
  have hsz12 := hK10.size
  replace hG := hG.kp hK10 (by intro b hb hs; omega)
  replace hB2 : Blk wv9 _ _ _ := hS11
  clear hS11
  replace hEw := hEw.new hK10 (by intro b hb; subst hb; omega)
  refine SQ.op rfl rfl rfl (r_assign rfl rfl) ?_
  refine SQ.nil ?_
  refine C.code ?_
  refine W.ret ?_
  refine C.retL (vs := [_, _]) Tryd.results60 ⟨⟨_, rfl, ld_agg Tryd.isAgg25 Tryd.sizeOf25 hB2 rfl⟩, rfl, trivial⟩ ?_
  exact ⟨rfl, hEw⟩


end Go.Proofs.YtclokcmgigdjlaaDoor
