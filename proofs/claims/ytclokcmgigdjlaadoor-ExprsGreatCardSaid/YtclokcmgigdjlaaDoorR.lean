/- Printed by this session's own program out of the translation, and by hand. -/
import Derived.Test.YtclokcmgigdjlaaDoorQ
set_option linter.unusedVariables false
set_option linter.unusedSimpArgs false
set_option maxRecDepth 4000
namespace Go.Proofs.YtclokcmgigdjlaaDoor
open Go.FL Go.RowKit Go.Proofs

/-! ### What is asked for -/
structure Rf where
  s : ByteArray
  a : Int
  deriving DecidableEq
def Rf.enc (r : Rf) : List Value := [.string r.s, .int .i64 r.a]
def RfAt (w : World) (N : Nat) (A : Option Addr) (l : List Rf) : Prop := l ≠ [] → ∃ b o, A = some ⟨b, o, none⟩ ∧ b < N ∧ Cl w b o (l.flatMap Rf.enc)
theorem RfAt.kp {w w' : World} {N : Nat} {A : Option Addr} {l : List Rf} {X : Nat → Prop} (h : RfAt w N A l) (hK : Kp X w w') (hx : ∀ b, X b → ¬ b < N) : RfAt w' N A l := fun hne => by
  obtain ⟨b, o, h1, h2, h3⟩ := h hne
  exact ⟨b, o, h1, h2, h3.kp hK (fun hX => hx b hX h2)⟩
theorem RfAt.ext {w w' : World} {N : Nat} {A : Option Addr} {l : List Rf} (h : RfAt w N A l) (hE : Ext w w') : RfAt w' N A l := h.kp hE (fun _ h => h.elim)
theorem RfAt.get {w : World} {N : Nat} {A : Option Addr} {l : List Rf} {i : Nat} {k : Rf} (h : RfAt w N A l) (hi : l[i]? = some k) : ∃ b o, A = some ⟨b, o, none⟩ ∧ b < N ∧ Cl w b (o + i * 2) k.enc := by
  obtain ⟨b, o, h1, h2, h3⟩ := h (by rintro rfl; simp at hi)
  exact ⟨b, o, h1, h2, h3.sub (g := Rf.enc) (fun _ => rfl) hi⟩
theorem refSI : ∃ f g, SI Tryd.prog 32 f g := ⟨_, _, ⟨Tryd.underlying32, by kernel_rfl, by decide, by decide, rfl, rfl, Tryd.underlying9, Tryd.underlying3, Tryd.isAgg9, Tryd.isAgg3⟩⟩
theorem refG : Tryd.prog.eqGuardType Tryd.prog.depth 32 = false := by kernel_rfl
theorem refs_no {l q : List Rf} {i : Nat} {x y : Rf} (hx : l[i]? = some x) (hy : q[i]? = some y) (h : (decide (x.s = y.s) && decide (x.a = y.a)) = false) : decide (l = q) = false := by
  rw [decide_eq_false_iff_not]; rintro rfl
  rw [hx] at hy; cases hy
  simp at h

/-- belfry.belfrylaw01.SameRefs -/
theorem SameRefs_spec (l q : List Rf) (A B : Option Addr) (c d N : Nat) (w : World) (hL : RfAt w N A l) (hQ : RfAt w N B q) (hN : N ≤ w.heap.size) (hll : l.length ≤ 1000000000000) :
    Calls Tryd.prog 11 #[.slice A l.length c, .slice B q.length d] w fun e w' => e = .returned (.bool (decide (l = q))) ∧ Ext w w' := by
  refine calls_of Tryd.func11 rfl Tryd.ntmps11 rfl ?_
  have hEw := Kp.refl (fun _ => False) w
  refine W.seq ?_
  refine W.region ?_
  refine SQ.op rfl rfl rfl (r_assign rfl rfl) ?_
  refine SQ.nil ?_
  refine C.code ?_
  refine W.seq ?_
  refine W.seq ?_
  refine W.region ?_
  refine SQ.op rfl rfl rfl (r_move rfl rfl) ?_
  refine SQ.op rfl rfl rfl (r_lenSlice rfl rfl Tryd.underlying28) ?_
  refine SQ.op rfl rfl rfl (r_move rfl rfl) ?_
  refine SQ.op rfl rfl rfl (r_lenSlice rfl rfl Tryd.underlying28) ?_
  refine SQ.op rfl rfl rfl (r_neqInt rfl rfl rfl) ?_
  refine SQ.nil ?_
  refine C.code ?_
  refine W.cond rfl ?_ ?_
  · intro hc1
    try simp only [decide_eq_true_eq, decide_eq_false_iff_not, Bool.not_eq_true', Bool.not_eq_false', Bool.not_true, Bool.not_false, Bool.not_eq_true, Bool.not_eq_false] at hc1
    refine W.seq ?_
    refine W.region ?_
    refine SQ.op rfl rfl rfl (r_assign rfl rfl) ?_
    refine SQ.nil ?_
    refine C.code ?_
    refine W.ret ?_
    refine C.ret1 Tryd.results11 rfl ?_
    refine ⟨?_, hEw⟩
    first
      | (have hd : decide (l = q) = false := decide_eq_false (fun e => by subst e; omega)
         rw [hd])
      | (rw [refs_no hx hy (by assumption)])
      | (have hd : decide (l = q) = true := decide_eq_true (by
           apply List.ext_getElem?
           intro j
           by_cases hj : j < l.length
           · exact hall j (by omega)
           · rw [List.getElem?_eq_none (by omega), List.getElem?_eq_none (by omega)])
         rw [hd])
  · intro hc1
    try simp only [decide_eq_true_eq, decide_eq_false_iff_not, Bool.not_eq_true', Bool.not_eq_false', Bool.not_true, Bool.not_false, Bool.not_eq_true, Bool.not_eq_false] at hc1
    refine W.skip ?_
    refine C.code ?_
    refine W.seq ?_
    refine W.seq ?_
    refine W.region ?_
    refine SQ.op rfl rfl rfl (r_assign rfl rfl) ?_
    refine SQ.nil ?_
    refine C.code ?_
    refine W.block ?_
    refine W.loop (α := Nat) (fun i => [(0, .slice A l.length c), (1, .slice B q.length d), (5, .int .i64 (i : Int))]) (fun i w1 => RfAt w1 N A l ∧ RfAt w1 N B q ∧ Ext w w1 ∧ i ≤ l.length ∧ ∀ j, j < i → l[j]? = q[j]?) (fun i => l.length - i) 0 ⟨rfl, rfl, rfl, trivial⟩ ⟨hL, hQ, hEw, by omega, fun j h => absurd h (by omega)⟩ ?_
    rintro i wl ⟨hL, hQ, hEw, hile, hall⟩
    by_cases hi : i < l.length
    · obtain ⟨x, hx⟩ : ∃ x, l[i]? = some x := ⟨_, List.getElem?_eq_getElem hi⟩
      obtain ⟨y, hy⟩ : ∃ y, q[i]? = some y := ⟨_, List.getElem?_eq_getElem (by omega)⟩
      obtain ⟨ba, oa, rfl, hba, hC⟩ := hL.get hx
      obtain ⟨bb, ob, rfl, hbb, hD⟩ := hQ.get hy
      refine W.seq ?_
      refine W.seq ?_
      refine W.region ?_
      refine SQ.op rfl rfl rfl (r_move rfl rfl) ?_
      refine SQ.op rfl rfl rfl (r_move rfl rfl) ?_
      refine SQ.op rfl rfl rfl (r_lenSlice rfl rfl Tryd.underlying28) ?_
      refine SQ.opD true rfl rfl rfl (r_lss rfl rfl rfl) (by simp; omega) ?_
      refine SQ.nil ?_
      refine C.code ?_
      refine W.cond_t rfl ?_
      refine W.skip ?_
      refine C.code ?_
      refine W.seq ?_
      refine W.block ?_
      refine W.seq ?_
      refine W.quiet mixed (by kernel_rfl) ?_
      refine QZ.op rfl rfl rfl (fun w' hE => r_move rfl rfl) ?_
      refine QZ.op rfl rfl rfl (fun w' hE => r_move rfl rfl) ?_
      refine QZ.op rfl rfl rfl (fun w' hE => r_indexAddr rfl rfl rfl Tryd.underlying28 Tryd.sizeOf32 rfl (by omega)) ?_
      refine QZ.op rfl rfl rfl (fun w' hE => r_loadAgg rfl rfl Tryd.isAgg32 Tryd.sizeOf32 rfl (by first | exact (fun j v hv => hE.cell (hD j v hv)) | exact (fun j v hv => hE.cell (hC j v hv)) | assumption)) ?_
      refine QZ.op rfl rfl rfl (fun w' hE => r_move rfl rfl) ?_
      refine QZ.op rfl rfl rfl (fun w' hE => r_move rfl rfl) ?_
      refine QZ.op rfl rfl rfl (fun w' hE => r_indexAddr rfl rfl rfl Tryd.underlying28 Tryd.sizeOf32 rfl (by omega)) ?_
      refine QZ.op rfl rfl rfl (fun w' hE => r_loadAgg rfl rfl Tryd.isAgg32 Tryd.sizeOf32 rfl (by first | exact (fun j v hv => hE.cell (hD j v hv)) | exact (fun j v hv => hE.cell (hC j v hv)) | assumption)) ?_
      refine QZ.op rfl rfl rfl (fun w' hE => r_neqSI rfl rfl rfl refSI.choose_spec.choose_spec refG) ?_
      refine QZ.nil ?_
      intro wv2 hE3
      replace hL := hL.ext hE3
      replace hQ := hQ.ext hE3
      replace hC := hC.ext hE3
      replace hD := hD.ext hE3
      replace hEw := hEw.ext hE3
      refine C.code ?_
      refine W.cond rfl ?_ ?_
      · intro hc4
        try simp only [decide_eq_true_eq, decide_eq_false_iff_not, Bool.not_eq_true', Bool.not_eq_false', Bool.not_true, Bool.not_false, Bool.not_eq_true, Bool.not_eq_false] at hc4
        refine W.seq ?_
        refine W.region ?_
        refine SQ.op rfl rfl rfl (r_assign rfl rfl) ?_
        refine SQ.nil ?_
        refine C.code ?_
        refine W.ret ?_
        refine C.ret1 Tryd.results11 rfl ?_
        refine ⟨?_, hEw⟩
        first
          | (have hd : decide (l = q) = false := decide_eq_false (fun e => by subst e; omega)
             rw [hd])
          | (rw [refs_no hx hy (by assumption)])
          | (have hd : decide (l = q) = true := decide_eq_true (by
               apply List.ext_getElem?
               intro j
               by_cases hj : j < l.length
               · exact hall j (by omega)
               · rw [List.getElem?_eq_none (by omega), List.getElem?_eq_none (by omega)])
             rw [hd])
      · intro hc4
        try simp only [decide_eq_true_eq, decide_eq_false_iff_not, Bool.not_eq_true', Bool.not_eq_false', Bool.not_true, Bool.not_false, Bool.not_eq_true, Bool.not_eq_false] at hc4
        refine W.skip ?_
        refine C.code ?_
        refine W.region ?_
        refine SQ.op rfl rfl rfl (r_move rfl rfl) ?_
        refine SQ.op rfl rfl rfl (r_add rfl rfl rfl (w64 (by omega))) ?_
        refine SQ.op rfl rfl rfl (r_assign rfl rfl) ?_
        refine SQ.nil ?_
        refine C.round (i + 1) ⟨rfl, rfl, rfl, trivial⟩ ⟨hL, hQ, hEw, by omega, fun j hj => ?_⟩ (by omega)
        rcases Nat.lt_or_ge j i with e | e
        · exact hall j e
        · obtain rfl : j = i := by omega
          have hxy : x = y := by
            cases x; cases y; simp_all
          rw [hx, hy, hxy]
    · refine W.seq ?_
      refine W.seq ?_
      refine W.region ?_
      refine SQ.op rfl rfl rfl (r_move rfl rfl) ?_
      refine SQ.op rfl rfl rfl (r_move rfl rfl) ?_
      refine SQ.op rfl rfl rfl (r_lenSlice rfl rfl Tryd.underlying28) ?_
      refine SQ.opD false rfl rfl rfl (r_lss rfl rfl rfl) (by simp; omega) ?_
      refine SQ.nil ?_
      refine C.code ?_
      refine W.cond_f rfl ?_
      refine W.exit rfl ?_
      refine C.code ?_
      refine W.seq ?_
      refine W.region ?_
      refine SQ.op rfl rfl rfl (r_assign rfl rfl) ?_
      refine SQ.nil ?_
      refine C.code ?_
      refine W.ret ?_
      refine C.ret1 Tryd.results11 rfl ?_
      refine ⟨?_, hEw⟩
      first
        | (have hd : decide (l = q) = false := decide_eq_false (fun e => by subst e; omega)
           rw [hd])
        | (rw [refs_no hx hy (by assumption)])
        | (have hd : decide (l = q) = true := decide_eq_true (by
             apply List.ext_getElem?
             intro j
             by_cases hj : j < l.length
             · exact hall j (by omega)
             · rw [List.getElem?_eq_none (by omega), List.getElem?_eq_none (by omega)])
           rw [hd])

def nameE (s : ByteArray) : Ex := .mk 3 0 s []
theorem readFrom_fit (s : ByteArray) : ∀ (k a : Nat) (l : List Tok), a ≤ s.size → l.length ≤ a → (∀ t, t ∈ l → t.t.size ≤ s.size) → (readFrom s k a l).1.length ≤ s.size ∧ ∀ t, t ∈ (readFrom s k a l).1 → t.t.size ≤ s.size
  | 0, a, l, ha, hl, ht => ⟨by show l.length ≤ _; omega, ht⟩
  | k + 1, a, l, ha, hl, ht => by
    unfold readFrom
    split
    · rename_i hlt
      have hrs := size_extract s a s.size ha (Nat.le_refl _)
      split
      · have := silentLen_le (s.extract a s.size)
        exact readFrom_fit s k _ l (by omega) (by omega) ht
      · split
        · rename_i q n hq
          have hn : n ≤ s.size - a ∧ 0 < n := by
            have h1 := wordLen_le (s.extract a s.size)
            have h2 := numLen_le (s.extract a s.size)
            have h3 := signLen_le (s := s.extract a s.size) (by omega)
            unfold tokOf at hq
            repeat' split at hq
            all_goals (first | (injection hq with hq; injection hq with _ hq; subst hq; omega) | cases hq)
          refine readFrom_fit s k (a + n) _ (by omega) (by simp; omega) (fun t h => ?_)
          rcases List.mem_append.1 h with h | h
          · exact ht t h
          · simp only [List.mem_singleton] at h
            subst h
            show (s.extract a (a + n)).size ≤ _
            rw [size_extract s a (a + n) (by omega) (by omega)]; omega
        · exact ⟨by simp, by simp⟩
    · exact ⟨by show l.length ≤ _; omega, ht⟩
theorem readR_fit (s : ByteArray) : (readR s).1.length ≤ s.size ∧ ∀ t, t ∈ (readR s).1 → t.t.size ≤ s.size := by
  unfold readR
  split
  · exact ⟨by simp, by simp⟩
  · exact readFrom_fit s _ 0 [] (by omega) (by simp) (by simp)
theorem TkAt.of {w : World} {base : Nat} {v : Value} {ts : List Tok} {e : TypeId} (h : Ow w base e 3 v ts.length (encs ts)) : ∃ A c, v = .slice A ts.length c ∧ TkAt w w.heap.size A ts := by
  by_cases hn : ts = []
  · subst hn
    obtain ⟨A, c, rfl⟩ := h.slice
    exact ⟨A, c, rfl, fun h => absurd rfl h⟩
  · have hp : 0 < ts.length := List.length_pos_iff.2 hn
    obtain ⟨g, cap, rfl, hb, _, hC⟩ := h.cl hp
    exact ⟨_, cap, rfl, fun _ => ⟨g, 0, rfl, (h.lt g rfl).2, hC⟩⟩
/-- A text, all of it: what it says, and whether. -/
def readE (K : Nat) (s : ByteArray) : Ex × Bool := ((parseR K (readR s).1).1, decide ((readR s).2.2 = 0) && (decide ((parseR K (readR s).1).2.2 = 0) && decide (((parseR K (readR s).1).2.1 : Int) = ((readR s).1.length : Int))))

/-- belfry.belfrylaw05.name -/
theorem name_spec (s : ByteArray) (w : World) :
    Calls Tryd.prog 12 #[.string s] w fun e w' => e = .returned (.agg (List.toArray ((nameE s).cs none 0))) ∧ Ext w w' := by
  refine calls_of Tryd.func12 rfl Tryd.ntmps12 rfl ?_
  have hEw := Kp.refl (fun _ => False) w
  refine W.seq ?_
  refine W.region ?_
  have hsz5 := hEw.size
  refine SQ.new (v := (fun nb => .pointer (some ⟨nb, 0, none⟩))) rfl rfl rfl (r_alloc rfl Tryd.zeroValue25) ?_
  intro nb2 wv1 hge2 hlt3 hB2 hE4
  replace hEw := hEw.ext hE4
  replace hB2 : Blk wv1 nb2 _ _ := hB2
  refine SQ.nil ?_
  refine C.code ?_
  refine W.seq ?_
  refine W.region ?_
  refine SQ.op rfl rfl rfl (r_move rfl rfl) ?_
  refine SQ.op rfl rfl rfl (r_build (pl := [(0, 1), (1, 1), (2, 1), (3, 1)]) rfl rfl Tryd.underlying25 Tryd.zeroValue25 (fun _ => by kernel_rfl) rfl rfl) ?_
  refine SQ.storeA rfl rfl rfl rfl rfl Tryd.sizeOf25 rfl hB2 ⟨rfl, rfl⟩ ?_
  intro wv6 hS8 hK7
  have hsz9 := hK7.size
  replace hB2 : Blk wv6 _ _ _ := hS8
  clear hS8
  replace hEw := hEw.new hK7 (by intro b hb; subst hb; omega)
  refine SQ.nil ?_
  refine C.code ?_
  refine W.ret ?_
  refine C.retL (vs := [_]) Tryd.results12 ⟨⟨_, rfl, ld_agg Tryd.isAgg25 Tryd.sizeOf25 hB2 rfl⟩, trivial⟩ ?_
  exact ⟨rfl, hEw⟩

/-- belfry.belfrylaw05.of -/
theorem of_spec (op : Int) (A : Option Addr) (n c : Nat) (w : World) :
    Calls Tryd.prog 10 #[.int .u8 op, .slice A n c] w fun e w' => e = .returned (.agg #[.int .u8 op, .int .i64 0, .string ⟨#[]⟩, .slice A n c]) ∧ Ext w w' := by
  refine calls_of Tryd.func10 rfl Tryd.ntmps10 rfl ?_
  have hEw := Kp.refl (fun _ => False) w
  refine W.seq ?_
  refine W.region ?_
  have hsz5 := hEw.size
  refine SQ.new (v := (fun nb => .pointer (some ⟨nb, 0, none⟩))) rfl rfl rfl (r_alloc rfl Tryd.zeroValue25) ?_
  intro nb4 wv1 hge2 hlt3 hB4 hE4
  replace hEw := hEw.ext hE4
  replace hB4 : Blk wv1 nb4 _ _ := hB4
  refine SQ.nil ?_
  refine C.code ?_
  refine W.seq ?_
  refine W.region ?_
  refine SQ.op rfl rfl rfl (r_move rfl rfl) ?_
  refine SQ.op rfl rfl rfl (r_move rfl rfl) ?_
  refine SQ.op rfl rfl rfl (r_build (pl := [(0, 1), (1, 1), (2, 1), (3, 1)]) rfl rfl Tryd.underlying25 Tryd.zeroValue25 (fun _ => by kernel_rfl) rfl rfl) ?_
  refine SQ.storeA rfl rfl rfl rfl rfl Tryd.sizeOf25 rfl hB4 ⟨rfl, rfl⟩ ?_
  intro wv6 hS8 hK7
  have hsz9 := hK7.size
  replace hB4 : Blk wv6 _ _ _ := hS8
  clear hS8
  replace hEw := hEw.new hK7 (by intro b hb; subst hb; omega)
  refine SQ.nil ?_
  refine C.code ?_
  refine W.ret ?_
  refine C.retL (vs := [_]) Tryd.results10 ⟨⟨_, rfl, ld_agg Tryd.isAgg25 Tryd.sizeOf25 hB4 rfl⟩, trivial⟩ ?_
  exact ⟨rfl, hEw⟩

/-- belfry.belfrylaw05.read -/
theorem read_spec (K : Nat) (s : ByteArray) (hs : s.size ≤ 1000000000) (w : World) (hG : Gl w) (hne : rankP (readR s).1 K 0 0 ≠ .oof) :
    Calls Tryd.prog 18 #[.string s] w fun e w' => ∃ A' c', e = .returned (.tuple #[.agg ((readE K s).1.cs A' c').toArray, .bool (readE K s).2]) ∧ Tr w' (fun b => w.heap.size ≤ b ∧ b < w'.heap.size) (readE K s).1 A' c' ∧ Ext w w' := by
  refine calls_of Tryd.func18 rfl Tryd.ntmps18 rfl ?_
  have hEw := Kp.refl (fun _ => False) w
  refine W.seq ?_
  refine W.region ?_
  have hsz5 := hEw.size
  refine SQ.new (v := (fun nb => .pointer (some ⟨nb, 0, none⟩))) rfl rfl rfl (r_alloc rfl Tryd.zeroValue25) ?_
  intro nb2 wv1 hge2 hlt3 hB2 hE4
  have hge_hG_hB2 := Nat.le_trans hG.size hge2
  replace hG := hG.ext hE4
  replace hEw := hEw.ext hE4
  replace hB2 : Blk wv1 nb2 _ _ := hB2
  refine SQ.op rfl rfl rfl (r_assign rfl rfl) ?_
  refine SQ.nil ?_
  refine C.code ?_
  refine W.seq ?_
  refine W.region ?_
  refine SQ.op rfl rfl rfl (r_move rfl rfl) ?_
  refine SQ.call rfl rfl rfl (rc_func rfl rfl Tryd.call13) (Read_spec s (by omega) _) ?_
  rintro _ wv6 ⟨v, rfl, hO, hEr⟩
  obtain ⟨Av, cv, rfl, hK⟩ := TkAt.of hO
  have hfit := readR_fit s
  have hszr := hEr.size
  refine ⟨_, rfl, ?_⟩
  replace hG := hG.ext hEr
  replace hB2 := hB2.ext hEr
  replace hEw := hEw.ext hEr
  refine SQ.op rfl rfl rfl (r_move rfl rfl) ?_
  refine SQ.op rfl rfl rfl (r_extract rfl rfl rfl) ?_
  refine SQ.op rfl rfl rfl (r_extract rfl rfl rfl) ?_
  refine SQ.op rfl rfl rfl (r_extract rfl rfl rfl) ?_
  refine SQ.op rfl rfl rfl (r_assign rfl rfl) ?_
  refine SQ.op rfl rfl rfl (r_assign rfl rfl) ?_
  refine SQ.op rfl rfl rfl (r_assign rfl rfl) ?_
  refine SQ.nil ?_
  refine C.code ?_
  refine W.seq ?_
  refine W.region ?_
  refine SQ.op rfl rfl rfl (r_move rfl rfl) ?_
  have hsz7 := hEw.size
  refine SQ.call rfl rfl rfl (rc_func rfl rfl Tryd.call14) (Parse_spec K (readR s).1 Av cv _ _ hK (Nat.le_refl _) (by have := hfit.1; omega) (fun k hk => Nat.le_trans (hfit.2 k hk) (by omega)) hG hne) ?_
  rintro _ wv7 ⟨A', c', rfl, hT, hEp⟩
  refine ⟨_, rfl, ?_⟩
  replace hG := hG.ext hEp
  replace hB2 := hB2.ext hEp
  replace hK := hK.ext hEp
  replace hEw := hEw.ext hEp
  refine SQ.op rfl rfl rfl (r_move rfl rfl) ?_
  refine SQ.op rfl rfl rfl (r_extract rfl rfl rfl) ?_
  refine SQ.op rfl rfl rfl (r_extract rfl rfl rfl) ?_
  refine SQ.op rfl rfl rfl (r_extract rfl rfl rfl) ?_
  have hsz12 := hEw.size
  refine SQ.new (v := (fun nb => .pointer (some ⟨nb, 0, none⟩))) rfl rfl rfl (r_alloc rfl Tryd.zeroValue25) ?_
  intro nb7 wv8 hge9 hlt10 hB7 hE11
  have hge_hG_hB7 := Nat.le_trans hG.size hge9
  have hlt_hB2_hB7 := Nat.lt_of_lt_of_le hB2.lt hge9
  replace hG := hG.ext hE11
  replace hB2 := hB2.ext hE11
  replace hT := hT.ext hE11
  replace hEw := hEw.ext hE11
  replace hB7 : Blk wv8 nb7 _ _ := hB7
  refine SQ.storeA rfl rfl rfl rfl rfl Tryd.sizeOf25 rfl hB7 ⟨rfl, rfl⟩ ?_
  intro wv13 hS15 hK14
  have hsz16 := hK14.size
  replace hG := hG.kp hK14 (by intro b hb hs; omega)
  replace hB2 := hB2.kp hK14 (by omega)
  replace hT := hT.kp hK14 (by intro b hb hs; omega)
  replace hB7 : Blk wv13 _ _ _ := hS15
  clear hS15
  replace hEw := hEw.new hK14 (by intro b hb; subst hb; omega)
  refine SQ.op rfl rfl rfl (r_assign rfl rfl) ?_
  refine SQ.op rfl rfl rfl (r_assign rfl rfl) ?_
  refine SQ.nil ?_
  refine C.code ?_
  refine W.seq ?_
  refine W.region ?_
  refine SQ.op rfl rfl rfl (r_loadAgg rfl rfl Tryd.isAgg25 Tryd.sizeOf25 rfl (by first | exact hB7.cells | exact hB2.cells | assumption)) ?_
  refine SQ.op rfl rfl rfl (r_move rfl rfl) ?_
  refine SQ.op rfl rfl rfl (r_eqlInt rfl rfl rfl) ?_
  refine SQ.opB rfl rfl rfl (r_move rfl rfl) ?_ ?_
  · intro hb3_3
    try simp only [decide_eq_true_eq, decide_eq_false_iff_not, Bool.not_eq_true', Bool.not_eq_false', Bool.not_true, Bool.not_false, Bool.not_eq_true, Bool.not_eq_false] at hb3_3
    refine SQ.guarded rfl rfl rfl rfl rfl ?_
    refine SQ.op rfl rfl rfl (r_move rfl rfl) ?_
    refine SQ.guarded rfl rfl rfl rfl rfl ?_
    refine SQ.op rfl rfl rfl (r_eqlInt rfl rfl rfl) ?_
    refine SQ.op rfl rfl rfl (r_pick_t rfl rfl rfl) ?_
    refine SQ.opB rfl rfl rfl (r_move rfl rfl) ?_ ?_
    · intro hb3_7
      try simp only [decide_eq_true_eq, decide_eq_false_iff_not, Bool.not_eq_true', Bool.not_eq_false', Bool.not_true, Bool.not_false, Bool.not_eq_true, Bool.not_eq_false] at hb3_7
      refine SQ.guarded rfl rfl rfl rfl rfl ?_
      refine SQ.op rfl rfl rfl (r_move rfl rfl) ?_
      refine SQ.guarded rfl rfl rfl rfl rfl ?_
      refine SQ.op rfl rfl rfl (r_move rfl rfl) ?_
      refine SQ.guarded rfl rfl rfl rfl rfl ?_
      refine SQ.op rfl rfl rfl (r_lenSlice rfl rfl Tryd.underlying37) ?_
      refine SQ.guarded rfl rfl rfl rfl rfl ?_
      refine SQ.op rfl rfl rfl (r_eqlInt rfl rfl rfl) ?_
      refine SQ.op rfl rfl rfl (r_pick_t rfl rfl rfl) ?_
      refine SQ.storeA rfl rfl rfl rfl rfl Tryd.sizeOf25 rfl hB2 ⟨rfl, rfl⟩ ?_
      intro wv17 hS19 hK18
      have hsz20 := hK18.size
      replace hG := hG.kp hK18 (by intro b hb hs; omega)
      replace hT := hT.kp hK18 (by intro b hb hs; omega)
      replace hB7 := hB7.kp hK18 (by omega)
      replace hB2 : Blk wv17 _ _ _ := hS19
      clear hS19
      replace hEw := hEw.new hK18 (by intro b hb; subst hb; omega)
      refine SQ.op rfl rfl rfl (r_assign rfl rfl) ?_
      refine SQ.nil ?_
      refine C.code ?_
      refine W.ret ?_
      refine C.retL (vs := [_, _]) Tryd.results18 ⟨⟨_, rfl, ld_agg Tryd.isAgg25 Tryd.sizeOf25 hB2 rfl⟩, rfl, trivial⟩ ?_
      refine ⟨A', c', ?_, hT.mono (by intro b hb; have := hB7.lt; omega), hEw⟩
      unfold readE
      simp [tupleOf, *]
    · intro hb3_7
      try simp only [decide_eq_true_eq, decide_eq_false_iff_not, Bool.not_eq_true', Bool.not_eq_false', Bool.not_true, Bool.not_false, Bool.not_eq_true, Bool.not_eq_false] at hb3_7
      refine SQ.skip rfl rfl rfl rfl rfl rfl rfl ?_
      refine SQ.skip rfl rfl rfl rfl rfl rfl rfl ?_
      refine SQ.skip rfl rfl rfl rfl rfl rfl rfl ?_
      refine SQ.skip rfl rfl rfl rfl rfl rfl rfl ?_
      refine SQ.op rfl rfl rfl (r_pick_f rfl rfl rfl) ?_
      refine SQ.storeA rfl rfl rfl rfl rfl Tryd.sizeOf25 rfl hB2 ⟨rfl, rfl⟩ ?_
      intro wv21 hS23 hK22
      have hsz24 := hK22.size
      replace hG := hG.kp hK22 (by intro b hb hs; omega)
      replace hT := hT.kp hK22 (by intro b hb hs; omega)
      replace hB7 := hB7.kp hK22 (by omega)
      replace hB2 : Blk wv21 _ _ _ := hS23
      clear hS23
      replace hEw := hEw.new hK22 (by intro b hb; subst hb; omega)
      refine SQ.op rfl rfl rfl (r_assign rfl rfl) ?_
      refine SQ.nil ?_
      refine C.code ?_
      refine W.ret ?_
      refine C.retL (vs := [_, _]) Tryd.results18 ⟨⟨_, rfl, ld_agg Tryd.isAgg25 Tryd.sizeOf25 hB2 rfl⟩, rfl, trivial⟩ ?_
      refine ⟨A', c', ?_, hT.mono (by intro b hb; have := hB7.lt; omega), hEw⟩
      unfold readE
      simp [tupleOf, *]
  · intro hb3_3
    try simp only [decide_eq_true_eq, decide_eq_false_iff_not, Bool.not_eq_true', Bool.not_eq_false', Bool.not_true, Bool.not_false, Bool.not_eq_true, Bool.not_eq_false] at hb3_3
    refine SQ.skip rfl rfl rfl rfl rfl rfl rfl ?_
    refine SQ.skip rfl rfl rfl rfl rfl rfl rfl ?_
    refine SQ.op rfl rfl rfl (r_pick_f rfl rfl rfl) ?_
    refine SQ.op rfl rfl rfl (r_move rfl rfl) ?_
    refine SQ.skip rfl rfl rfl rfl rfl rfl rfl ?_
    refine SQ.skip rfl rfl rfl rfl rfl rfl rfl ?_
    refine SQ.skip rfl rfl rfl rfl rfl rfl rfl ?_
    refine SQ.skip rfl rfl rfl rfl rfl rfl rfl ?_
    refine SQ.op rfl rfl rfl (r_pick_f rfl rfl rfl) ?_
    refine SQ.storeA rfl rfl rfl rfl rfl Tryd.sizeOf25 rfl hB2 ⟨rfl, rfl⟩ ?_
    intro wv25 hS27 hK26
    have hsz28 := hK26.size
    replace hG := hG.kp hK26 (by intro b hb hs; omega)
    replace hT := hT.kp hK26 (by intro b hb hs; omega)
    replace hB7 := hB7.kp hK26 (by omega)
    replace hB2 : Blk wv25 _ _ _ := hS27
    clear hS27
    replace hEw := hEw.new hK26 (by intro b hb; subst hb; omega)
    refine SQ.op rfl rfl rfl (r_assign rfl rfl) ?_
    refine SQ.nil ?_
    refine C.code ?_
    refine W.ret ?_
    refine C.retL (vs := [_, _]) Tryd.results18 ⟨⟨_, rfl, ld_agg Tryd.isAgg25 Tryd.sizeOf25 hB2 rfl⟩, rfl, trivial⟩ ?_
    refine ⟨A', c', ?_, hT.mono (by intro b hb; have := hB7.lt; omega), hEw⟩
    unfold readE
    simp [tupleOf, *]

def isE (K : Nat) (s : ByteArray) (t : Ex) : Bool := (readE K s).2 && (Ex.beq (readE K s).1 t && (decide ((textR t).2 = 0) && decide ((textR t).1 = s)))

/-- belfry.belfrylaw05.is -/
theorem is_spec (K : Nat) (s : ByteArray) (hs : s.size ≤ 1000000000) (t : Ex) (A : Option Addr) (c N : Nat) (w : World) (hT : Tr w (fun b => b < N) t A c) (hN : N ≤ w.heap.size) (hG : Gl w) (hne : rankP (readR s).1 K 0 0 ≠ .oof) :
    Calls Tryd.prog 19 #[.string s, .agg (t.cs A c).toArray] w fun e w' => e = .returned (.bool (isE K s t)) ∧ Ext w w' := by
  refine calls_of Tryd.func19 rfl Tryd.ntmps19 rfl ?_
  have hEw := Kp.refl (fun _ => False) w
  refine W.seq ?_
  refine W.region ?_
  have hsz5 := hEw.size
  refine SQ.new (v := (fun nb => .pointer (some ⟨nb, 0, none⟩))) rfl rfl rfl (r_box rfl rfl) ?_
  intro nb3 wv1 hge2 hlt3 hB3 hE4
  have hge_hG_hB3 := Nat.le_trans hG.size hge2
  replace hT := hT.ext hE4
  replace hG := hG.ext hE4
  replace hEw := hEw.ext hE4
  replace hB3 : Blk wv1 nb3 _ _ := hB3
  refine SQ.op rfl rfl rfl (r_assign rfl rfl) ?_
  refine SQ.nil ?_
  refine C.code ?_
  refine W.seq ?_
  refine W.region ?_
  refine SQ.op rfl rfl rfl (r_move rfl rfl) ?_
  have hszq := hEw.size
  have hlt7 := hB3.lt
  refine SQ.call rfl rfl rfl (rc_func rfl rfl Tryd.call18) (read_spec K s hs _ hG hne) ?_
  rintro _ wv6 ⟨A', c', rfl, hX, hEr⟩
  refine ⟨_, rfl, ?_⟩
  replace hT := hT.ext hEr
  replace hG := hG.ext hEr
  replace hB3 := hB3.ext hEr
  replace hEw := hEw.ext hEr
  refine SQ.op rfl rfl rfl (r_move rfl rfl) ?_
  refine SQ.op rfl rfl rfl (r_extract rfl rfl rfl) ?_
  refine SQ.op rfl rfl rfl (r_extract rfl rfl rfl) ?_
  have hsz12 := hEw.size
  refine SQ.new (v := (fun nb => .pointer (some ⟨nb, 0, none⟩))) rfl rfl rfl (r_alloc rfl Tryd.zeroValue25) ?_
  intro nb5 wv8 hge9 hlt10 hB5 hE11
  have hge_hG_hB5 := Nat.le_trans hG.size hge9
  have hlt_hB3_hB5 := Nat.lt_of_lt_of_le hB3.lt hge9
  replace hT := hT.ext hE11
  replace hG := hG.ext hE11
  replace hB3 := hB3.ext hE11
  replace hX := hX.ext hE11
  replace hEw := hEw.ext hE11
  replace hB5 : Blk wv8 nb5 _ _ := hB5
  refine SQ.storeA rfl rfl rfl rfl rfl Tryd.sizeOf25 rfl hB5 ⟨rfl, rfl⟩ ?_
  intro wv13 hS15 hK14
  have hsz16 := hK14.size
  replace hT := hT.kp hK14 (by intro b hb hs; omega)
  replace hG := hG.kp hK14 (by intro b hb hs; omega)
  replace hB3 := hB3.kp hK14 (by omega)
  replace hX := hX.kp hK14 (by intro b hb hs; omega)
  replace hB5 : Blk wv13 _ _ _ := hS15
  clear hS15
  replace hEw := hEw.new hK14 (by intro b hb; subst hb; omega)
  refine SQ.op rfl rfl rfl (r_assign rfl rfl) ?_
  refine SQ.nil ?_
  refine C.code ?_
  refine W.seq ?_
  refine W.region ?_
  refine SQ.op rfl rfl rfl (r_loadAgg rfl rfl Tryd.isAgg25 Tryd.sizeOf25 rfl (by first | exact hB5.cells | exact hB3.cells | assumption)) ?_
  have hsz17 := hEw.size
  refine SQ.call rfl rfl rfl (rc_func rfl rfl Tryd.call17) (Text_spec t A c N _ hT (by have := hEw.size; omega) hG) ?_
  rintro _ wv18 ⟨rfl, hE19⟩
  refine ⟨_, rfl, ?_⟩
  replace hT := hT.ext hE19
  replace hG := hG.ext hE19
  replace hB3 := hB3.ext hE19
  replace hX := hX.ext hE19
  replace hB5 := hB5.ext hE19
  replace hEw := hEw.ext hE19
  have hszt := hE19.size
  refine SQ.op rfl rfl rfl (r_move rfl rfl) ?_
  refine SQ.op rfl rfl rfl (r_extract rfl rfl rfl) ?_
  refine SQ.op rfl rfl rfl (r_extract rfl rfl rfl) ?_
  refine SQ.op rfl rfl rfl (r_assign rfl rfl) ?_
  refine SQ.op rfl rfl rfl (r_assign rfl rfl) ?_
  refine SQ.nil ?_
  refine C.code ?_
  refine W.seq ?_
  refine W.region ?_
  refine SQ.op rfl rfl rfl (r_move rfl rfl) ?_
  refine SQ.opB rfl rfl rfl (r_move rfl rfl) ?_ ?_
  · intro hb3_1
    try simp only [decide_eq_true_eq, decide_eq_false_iff_not, Bool.not_eq_true', Bool.not_eq_false', Bool.not_true, Bool.not_false, Bool.not_eq_true, Bool.not_eq_false] at hb3_1
    refine SQ.guarded rfl rfl rfl rfl rfl ?_
    refine SQ.op rfl rfl rfl (r_loadAgg rfl rfl Tryd.isAgg25 Tryd.sizeOf25 rfl (by first | exact hB5.cells | exact hB3.cells | assumption)) ?_
    refine SQ.guarded rfl rfl rfl rfl rfl ?_
    refine SQ.op rfl rfl rfl (r_loadAgg rfl rfl Tryd.isAgg25 Tryd.sizeOf25 rfl (by first | exact hB5.cells | exact hB3.cells | assumption)) ?_
    refine SQ.guarded rfl rfl rfl rfl rfl ?_
    have hl5 := hB5.lt
    have hsz6 := hEw.size
    have hsz20 := hEw.size
    refine SQ.call rfl rfl rfl (rc_func rfl rfl Tryd.call30) (Same_spec (readE K s).1 t A' c' A c _ _ (hX.mono (by intro b hb; omega)) (hT.mono (by intro b hb; omega)) (Nat.le_refl _)) ?_
    rintro _ wv21 ⟨rfl, hE22⟩
    refine ⟨_, rfl, ?_⟩
    replace hT := hT.ext hE22
    replace hG := hG.ext hE22
    replace hB3 := hB3.ext hE22
    replace hX := hX.ext hE22
    replace hB5 := hB5.ext hE22
    replace hEw := hEw.ext hE22
    refine SQ.op rfl rfl rfl (r_pick_t rfl rfl rfl) ?_
    refine SQ.opB rfl rfl rfl (r_move rfl rfl) ?_ ?_
    · intro hb3_6
      try simp only [decide_eq_true_eq, decide_eq_false_iff_not, Bool.not_eq_true', Bool.not_eq_false', Bool.not_true, Bool.not_false, Bool.not_eq_true, Bool.not_eq_false] at hb3_6
      refine SQ.guarded rfl rfl rfl rfl rfl ?_
      refine SQ.op rfl rfl rfl (r_move rfl rfl) ?_
      refine SQ.guarded rfl rfl rfl rfl rfl ?_
      refine SQ.op rfl rfl rfl (r_eqlInt rfl rfl rfl) ?_
      refine SQ.op rfl rfl rfl (r_pick_t rfl rfl rfl) ?_
      refine SQ.opB rfl rfl rfl (r_move rfl rfl) ?_ ?_
      · intro hb3_10
        try simp only [decide_eq_true_eq, decide_eq_false_iff_not, Bool.not_eq_true', Bool.not_eq_false', Bool.not_true, Bool.not_false, Bool.not_eq_true, Bool.not_eq_false] at hb3_10
        refine SQ.guarded rfl rfl rfl rfl rfl ?_
        refine SQ.op rfl rfl rfl (r_move rfl rfl) ?_
        refine SQ.guarded rfl rfl rfl rfl rfl ?_
        refine SQ.op rfl rfl rfl (r_move rfl rfl) ?_
        refine SQ.guarded rfl rfl rfl rfl rfl ?_
        refine SQ.op rfl rfl rfl (r_eqlStr rfl rfl rfl) ?_
        refine SQ.op rfl rfl rfl (r_pick_t rfl rfl rfl) ?_
        refine SQ.op rfl rfl rfl (r_assign rfl rfl) ?_
        refine SQ.nil ?_
        refine C.code ?_
        refine W.ret ?_
        refine C.ret1 Tryd.results19 rfl ?_
        refine ⟨?_, hEw⟩
        unfold isE
        simp [*]
      · intro hb3_10
        try simp only [decide_eq_true_eq, decide_eq_false_iff_not, Bool.not_eq_true', Bool.not_eq_false', Bool.not_true, Bool.not_false, Bool.not_eq_true, Bool.not_eq_false] at hb3_10
        refine SQ.skip rfl rfl rfl rfl rfl rfl rfl ?_
        refine SQ.skip rfl rfl rfl rfl rfl rfl rfl ?_
        refine SQ.skip rfl rfl rfl rfl rfl rfl rfl ?_
        refine SQ.op rfl rfl rfl (r_pick_f rfl rfl rfl) ?_
        refine SQ.op rfl rfl rfl (r_assign rfl rfl) ?_
        refine SQ.nil ?_
        refine C.code ?_
        refine W.ret ?_
        refine C.ret1 Tryd.results19 rfl ?_
        refine ⟨?_, hEw⟩
        unfold isE
        simp [*]
    · intro hb3_6
      try simp only [decide_eq_true_eq, decide_eq_false_iff_not, Bool.not_eq_true', Bool.not_eq_false', Bool.not_true, Bool.not_false, Bool.not_eq_true, Bool.not_eq_false] at hb3_6
      refine SQ.skip rfl rfl rfl rfl rfl rfl rfl ?_
      refine SQ.skip rfl rfl rfl rfl rfl rfl rfl ?_
      refine SQ.op rfl rfl rfl (r_pick_f rfl rfl rfl) ?_
      refine SQ.op rfl rfl rfl (r_move rfl rfl) ?_
      refine SQ.skip rfl rfl rfl rfl rfl rfl rfl ?_
      refine SQ.skip rfl rfl rfl rfl rfl rfl rfl ?_
      refine SQ.skip rfl rfl rfl rfl rfl rfl rfl ?_
      refine SQ.op rfl rfl rfl (r_pick_f rfl rfl rfl) ?_
      refine SQ.op rfl rfl rfl (r_assign rfl rfl) ?_
      refine SQ.nil ?_
      refine C.code ?_
      refine W.ret ?_
      refine C.ret1 Tryd.results19 rfl ?_
      refine ⟨?_, hEw⟩
      unfold isE
      simp [*]
  · intro hb3_1
    try simp only [decide_eq_true_eq, decide_eq_false_iff_not, Bool.not_eq_true', Bool.not_eq_false', Bool.not_true, Bool.not_false, Bool.not_eq_true, Bool.not_eq_false] at hb3_1
    refine SQ.skip rfl rfl rfl rfl rfl rfl rfl ?_
    refine SQ.skip rfl rfl rfl rfl rfl rfl rfl ?_
    refine SQ.skip rfl rfl rfl rfl rfl rfl rfl ?_
    refine SQ.op rfl rfl rfl (r_pick_f rfl rfl rfl) ?_
    refine SQ.op rfl rfl rfl (r_move rfl rfl) ?_
    refine SQ.skip rfl rfl rfl rfl rfl rfl rfl ?_
    refine SQ.skip rfl rfl rfl rfl rfl rfl rfl ?_
    refine SQ.op rfl rfl rfl (r_pick_f rfl rfl rfl) ?_
    refine SQ.op rfl rfl rfl (r_move rfl rfl) ?_
    refine SQ.skip rfl rfl rfl rfl rfl rfl rfl ?_
    refine SQ.skip rfl rfl rfl rfl rfl rfl rfl ?_
    refine SQ.skip rfl rfl rfl rfl rfl rfl rfl ?_
    refine SQ.op rfl rfl rfl (r_pick_f rfl rfl rfl) ?_
    refine SQ.op rfl rfl rfl (r_assign rfl rfl) ?_
    refine SQ.nil ?_
    refine C.code ?_
    refine W.ret ?_
    refine C.ret1 Tryd.results19 rfl ?_
    refine ⟨?_, hEw⟩
    unfold isE
    simp [*]


end Go.Proofs.YtclokcmgigdjlaaDoor
