/- Printed by this session's own program out of the translation, and by hand. -/
import Derived.Test.YtclokcmgigdjlaaDoorV
import Derived.Test.YtclokcmgigdjlaaDoorFlO
set_option linter.unusedVariables false
set_option linter.unusedSimpArgs false
set_option maxRecDepth 4000
namespace Go.Proofs.YtclokcmgigdjlaaDoor
open Go.FL Go.RowKit Go.Proofs

/-! ### What is asked for, longer ago, and of two -/
def ins (L : List Rf) (r : Rf) : List Rf := if r ∈ L then L else L ++ [r]
def dd (L l : List Rf) : List Rf := l.foldl ins L
mutual
def occ : Ex → Int → List Rf
  | .mk o _ s l, a => (if o = 3 then [⟨s, a⟩] else []) ++ occs l (if o = 19 then a + 1 else a)
def occs : List Ex → Int → List Rf
  | [], _ => []
  | x :: r, a => occ x a ++ occs r a
end
theorem dd_append (L l m : List Rf) : dd L (l ++ m) = dd (dd L l) m := List.foldl_append
mutual
theorem gather_occ : ∀ (t : Ex) (a : Int) (L : List Rf), gather t a L = dd L (occ t a)
  | .mk o n s l, a, L => by
    rw [gather, occ, dd_append, gathers_occ]
    congr 1
    by_cases h : o = 3
    · rw [if_pos h]
      by_cases hm : (⟨s, a⟩ : Rf) ∈ L
      · rw [if_neg (by simp [hm])]; simp [dd, ins, hm]
      · rw [if_pos ⟨h, hm⟩]; simp [dd, ins, hm]
    · rw [if_neg h, if_neg (by simp [h])]; rfl
theorem gathers_occ : ∀ (l : List Ex) (a : Int) (L : List Rf), gathers l a L = dd L (occs l a)
  | [], a, L => rfl
  | x :: r, a, L => by rw [gathers, occs, dd_append, gather_occ, gathers_occ]
end
theorem mem_ins {L : List Rf} {r x : Rf} : x ∈ ins L r ↔ x ∈ L ∨ x = r := by
  unfold ins
  split
  · rename_i h
    constructor
    · exact .inl
    · rintro (h1 | rfl)
      · exact h1
      · exact h
  · simp
theorem mem_dd : ∀ (l L : List Rf) (x : Rf), x ∈ dd L l ↔ x ∈ L ∨ x ∈ l
  | [], L, x => by simp [dd]
  | r :: l, L, x => by
    show x ∈ dd (ins L r) l ↔ _
    rw [mem_dd l, mem_ins]; simp [or_assoc]
theorem dd_ins (L M : List Rf) (r : Rf) : dd L (ins M r) = ins (dd L M) r := by
  by_cases h : r ∈ M
  · rw [ins, if_pos h, ins, if_pos ((mem_dd M L r).2 (.inr h))]
  · rw [ins, if_neg h, dd_append]; rfl
theorem dd_dd : ∀ (l L M : List Rf), dd L (dd M l) = dd (dd L M) l
  | [], L, M => rfl
  | r :: l, L, M => by
    show dd L (dd (ins M r) l) = dd (ins (dd L M) r) l
    rw [dd_dd l, dd_ins]
def shf (m : Int) (r : Rf) : Rf := ⟨r.s, r.a + m⟩
theorem shf_inj {m : Int} {r q : Rf} : shf m r = shf m q ↔ r = q := by
  cases r; cases q; simp only [shf, Rf.mk.injEq]
  constructor
  · rintro ⟨h1, h2⟩; exact ⟨h1, by omega⟩
  · rintro ⟨h1, h2⟩; exact ⟨h1, by omega⟩
theorem mem_shf {m : Int} {r : Rf} {L : List Rf} : shf m r ∈ L.map (shf m) ↔ r ∈ L := by
  rw [List.mem_map]
  constructor
  · rintro ⟨q, hq, he⟩; rw [shf_inj] at he; subst he; exact hq
  · intro h; exact ⟨r, h, rfl⟩
theorem dd_shf (m : Int) : ∀ (l L : List Rf), dd (L.map (shf m)) (l.map (shf m)) = (dd L l).map (shf m)
  | [], L => rfl
  | r :: l, L => by
    show dd (ins (L.map (shf m)) (shf m r)) (l.map (shf m)) = (dd (ins L r) l).map (shf m)
    rw [← dd_shf m l]
    congr 1
    unfold ins
    by_cases h : r ∈ L
    · rw [if_pos (mem_shf.2 h), if_pos h]
    · rw [if_neg (fun e => h (mem_shf.1 e)), if_neg h]; simp
mutual
theorem occ_shf (m : Int) : ∀ (t : Ex) (a : Int), occ t (a + m) = (occ t a).map (shf m)
  | .mk o n s l, a => by
    rw [occ, occ, List.map_append]
    have h := occs_shf m l (if o = 19 then a + 1 else a)
    have e : (if o = 19 then a + m + 1 else a + m) = (if o = 19 then a + 1 else a) + m := by split <;> omega
    rw [e, h]
    congr 1
    split <;> rfl
theorem occs_shf (m : Int) : ∀ (l : List Ex) (a : Int), occs l (a + m) = (occs l a).map (shf m)
  | [], a => rfl
  | x :: r, a => by rw [occs, occs, List.map_append, occ_shf m x, occs_shf m r]
end
theorem gather_shf (t : Ex) (m : Int) : gather t m [] = (gather t 0 []).map (shf m) := by
  rw [gather_occ, gather_occ, ← dd_shf, ← occ_shf]; simp
theorem gather_pre (t : Ex) : gather (.mk 19 0 ⟨#[]⟩ [t]) 0 [] = (gather t 0 []).map (shf 1) := by
  rw [← gather_shf]; simp [gather, gathers]
def wantR (x y : Ex) (m : Int) (i : Nat) : List Rf := dd [] (((gather x 0 [] ++ gather y 0 []).take i).map (shf m))
theorem wantR_all (x y : Ex) (m : Int) (i : Nat) (hi : (gather x 0 [] ++ gather y 0 []).length ≤ i) : wantR x y m i = gather y m (gather x m []) := by
  unfold wantR
  rw [List.take_of_length_le hi, List.map_append, dd_append, ← gather_shf, ← gather_shf, gather_occ y m (gather x m []), gather_occ y m [], dd_dd, gather_occ x m [], dd_dd]
  rfl
theorem wantR_op (x y : Ex) (o : Int) (ho : o ≠ 3) : gather (.mk o 0 ⟨#[]⟩ [x, y]) 0 [] = gather y (if o = 19 then 1 else 0) (gather x (if o = 19 then 1 else 0) []) := by
  have h3 : ¬ (o = 3 ∧ ¬ (⟨⟨#[]⟩, 0⟩ : Rf) ∈ ([] : List Rf)) := fun h => ho h.1
  simp only [gather, gathers, if_neg h3]
  have e : (if o = 19 then (0 : Int) + 1 else 0) = if o = 19 then 1 else 0 := by split <;> rfl
  rw [e]
theorem wantR_step {x y : Ex} {m : Int} {i : Nat} {r : Rf} (h : (gather x 0 [] ++ gather y 0 [])[i]? = some r) : wantR x y m (i + 1) = ins (wantR x y m i) (shf m r) := by
  unfold wantR
  rw [List.take_add_one, h]
  simp only [Option.toList_some, List.map_append, List.map_cons, List.map_nil]
  rw [dd_append]; rfl
theorem wantR_len (x y : Ex) (m : Int) : ∀ i, (wantR x y m i).length ≤ i := by
  intro i
  induction i with
  | zero => simp [wantR, dd]
  | succ i ih =>
    cases h : (gather x 0 [] ++ gather y 0 [])[i]? with
    | none =>
      have e : wantR x y m (i + 1) = wantR x y m i := by
        have hl := List.getElem?_eq_none_iff.1 h
        unfold wantR; rw [List.take_of_length_le (by omega), List.take_of_length_le hl]
      rw [e]; omega
    | some r =>
      rw [wantR_step h]; unfold ins
      split
      · omega
      · simp; omega
mutual
theorem occ_range : ∀ (t : Ex) (a : Int) (r : Rf), r ∈ occ t a → a ≤ r.a ∧ r.a ≤ a + t.sz
  | .mk o n s l, a, r, h => by
    rw [occ] at h
    rw [Ex.sz]
    rcases List.mem_append.1 h with h | h
    · split at h
      · simp at h; subst h; exact ⟨Int.le_refl _, by simp only []; omega⟩
      · cases h
    · have := occs_range l _ r h
      split at this <;> omega
theorem occs_range : ∀ (l : List Ex) (a : Int) (r : Rf), r ∈ occs l a → a ≤ r.a ∧ r.a ≤ a + szs l
  | [], a, r, h => by simp [occs] at h
  | x :: q, a, r, h => by
    rw [occs] at h
    rw [szs]
    rcases List.mem_append.1 h with h | h
    · have := occ_range x a r h; omega
    · have := occs_range q a r h; omega
end
theorem gather_range {t : Ex} {r : Rf} (h : r ∈ gather t 0 []) : 0 ≤ r.a ∧ r.a ≤ t.sz := by
  rw [gather_occ, mem_dd] at h
  rcases h with h | h
  · cases h
  · have := occ_range t 0 r h; omega
theorem RfAt.row {w : World} {base : Nat} {v : Value} {l : List Rf} {e : TypeId} (h : Ow w base e 2 v l.length (l.flatMap Rf.enc)) : ∃ A c N, v = .slice A l.length c ∧ Sz N w ∧ RfAt w N A l := by
  obtain ⟨A, c, h1, h2⟩ := RfAt.of h
  exact ⟨A, c, _, h1, Sz.here w, h2⟩
theorem rf_cells (l : List Rf) : ∀ u, u ∈ l.flatMap Rf.enc → u.oneCell' = true := by
  intro u hu
  obtain ⟨x, _, hx⟩ := List.mem_flatMap.1 hu
  simp only [Rf.enc, List.mem_cons, List.mem_nil_iff, or_false] at hx
  rcases hx with rfl | rfl <;> rfl
theorem decide_rf (r q : Rf) : (decide (r.s = q.s) && decide (r.a = q.a)) = decide (r = q) := by
  cases r; cases q; simp
theorem mem_take_succ {L : List Rf} {k : Nat} {q r : Rf} (h : L[k]? = some q) : (decide (r ∈ L.take (k + 1))) = (decide (r ∈ L.take k) || decide (q = r)) := by
  rw [List.take_add_one, h]
  simp only [Option.toList_some, List.mem_append, List.mem_singleton, Bool.decide_or]
  congr 1
  exact decide_eq_decide.2 ⟨fun e => e.symm, fun e => e.symm⟩
theorem SameRefs_is (l q : List Rf) (A B : Option Addr) (c d N : Nat) (w : World) (hL : RfAt w N A l) (hQ : RfAt w N B q) (hN : N ≤ w.heap.size) (hll : l.length ≤ 1000000000000) (h : l = q) : Calls Tryd.prog 11 #[.slice A l.length c, .slice B q.length d] w fun e w' => e = .returned (.bool true) ∧ Ext w w' := SameRefs_yes l q A B c d N w hL hQ hN hll (decide_eq_true h)

/- belfry.belfrylaw05.ExprsAgo -/
set_option maxHeartbeats 1000000 in
theorem ago_walk (x y : Ex) (Ax Ay : Option Addr) (cx cy N : Nat) (o : Int) (w : World) (hTx : Tr w (fun b => b < N) x Ax cx) (hTy : Tr w (fun b => b < N) y Ay cy) (hN : N ≤ w.heap.size) (hsx : x.sz ≤ 1048576) (hsy : y.sz ≤ 1048576) (hG : Gl w) :
    Calls Tryd.prog 3 #[.agg (x.cs Ax cx).toArray, .agg (y.cs Ay cy).toArray, .int .u8 o] w fun e w' => e = .returned (.bool true) ∧ Ext w w' := by
  have hszE : (⟨#[]⟩ : ByteArray).size = 0 := rfl
  refine calls_of Tryd.func3 rfl Tryd.ntmps3 rfl ?_
  have hEw := Kp.refl (fun _ => False) w
  refine W.seq ?_
  refine W.region ?_
  have hsz5 := hEw.size
  refine SQ.new (v := (fun nb => .pointer (some ⟨nb, 0, none⟩))) rfl rfl rfl (r_box rfl rfl) ?_
  intro nb3 wv1 hge2 hlt3 hB3 hE4
  have hge_hG_hB3 := Nat.le_trans hG.size hge2
  replace hTx := hTx.ext hE4
  replace hTy := hTy.ext hE4
  replace hG := hG.ext hE4
  replace hEw := hEw.ext hE4
  replace hB3 : Blk wv1 nb3 _ _ := hB3
  have hsz10 := hEw.size
  refine SQ.new (v := (fun nb => .pointer (some ⟨nb, 0, none⟩))) rfl rfl rfl (r_box rfl rfl) ?_
  intro nb4 wv6 hge7 hlt8 hB4 hE9
  have hge_hG_hB4 := Nat.le_trans hG.size hge7
  have hlt_hB3_hB4 := Nat.lt_of_lt_of_le hB3.lt hge7
  replace hTx := hTx.ext hE9
  replace hTy := hTy.ext hE9
  replace hG := hG.ext hE9
  replace hB3 := hB3.ext hE9
  replace hEw := hEw.ext hE9
  replace hB4 : Blk wv6 nb4 _ _ := hB4
  refine SQ.op rfl rfl rfl (r_assign rfl rfl) ?_
  refine SQ.nil ?_
  refine C.code ?_
  refine W.seq ?_
  refine W.seq ?_
  refine W.region ?_
  have hsz11 := hEw.size
  refine SQ.call rfl rfl rfl (rc_func rfl rfl Tryd.call7) (alive_spec _ hG) ?_
  rintro _ wv12 ⟨rfl, hE13⟩
  refine ⟨_, rfl, ?_⟩
  replace hTx := hTx.ext hE13
  replace hTy := hTy.ext hE13
  replace hG := hG.ext hE13
  replace hB3 := hB3.ext hE13
  replace hB4 := hB4.ext hE13
  replace hEw := hEw.ext hE13
  refine SQ.op rfl rfl rfl (r_not rfl rfl) ?_
  refine SQ.op rfl rfl rfl (r_move rfl rfl) ?_
  refine SQ.guarded rfl rfl rfl rfl rfl ?_
  refine SQ.op rfl rfl rfl (r_loadAgg rfl rfl Tryd.isAgg25 Tryd.sizeOf25 rfl (by first | exact hB4.cells | exact hB3.cells | assumption)) ?_
  refine SQ.guarded rfl rfl rfl rfl rfl ?_
  have hsz14 := hEw.size
  refine SQ.call rfl rfl rfl (rc_func rfl rfl Tryd.call8) (Size_spec x Ax cx N _ hTx (by have := hEw.size; omega) hsx) ?_
  rintro _ wv15 ⟨rfl, hE16⟩
  refine ⟨_, rfl, ?_⟩
  replace hTx := hTx.ext hE16
  replace hTy := hTy.ext hE16
  replace hG := hG.ext hE16
  replace hB3 := hB3.ext hE16
  replace hB4 := hB4.ext hE16
  replace hEw := hEw.ext hE16
  refine SQ.guarded rfl rfl rfl rfl rfl ?_
  refine SQ.op rfl rfl rfl (r_gtr rfl rfl rfl) ?_
  refine SQ.op rfl rfl rfl (r_pick_f rfl rfl rfl) ?_
  refine SQ.opB rfl rfl rfl (r_move rfl rfl) ?_ ?_
  · intro hb1_7
    try simp only [decide_eq_true_eq, decide_eq_false_iff_not, Bool.not_eq_true', Bool.not_eq_false', Bool.not_true, Bool.not_false, Bool.not_eq_true, Bool.not_eq_false] at hb1_7
    refine SQ.skip rfl rfl rfl rfl rfl rfl rfl ?_
    refine SQ.skip rfl rfl rfl rfl rfl rfl rfl ?_
    refine SQ.skip rfl rfl rfl rfl rfl rfl rfl ?_
    refine SQ.op rfl rfl rfl (r_pick_t rfl rfl rfl) ?_
    refine SQ.op rfl rfl rfl (r_move rfl rfl) ?_
    refine SQ.skip rfl rfl rfl rfl rfl rfl rfl ?_
    refine SQ.skip rfl rfl rfl rfl rfl rfl rfl ?_
    refine SQ.op rfl rfl rfl (r_pick_t rfl rfl rfl) ?_
    refine SQ.nil ?_
    refine C.code ?_
    refine W.cond_t rfl ?_
    refine W.seq ?_
    refine W.region ?_
    have hsz17 := hEw.size
    refine SQ.call rfl rfl rfl (rc_func rfl rfl Tryd.call7) (alive_spec _ hG) ?_
    rintro _ wv18 ⟨rfl, hE19⟩
    refine ⟨_, rfl, ?_⟩
    replace hTx := hTx.ext hE19
    replace hTy := hTy.ext hE19
    replace hG := hG.ext hE19
    replace hB3 := hB3.ext hE19
    replace hB4 := hB4.ext hE19
    replace hEw := hEw.ext hE19
    refine SQ.op rfl rfl rfl (r_assign rfl rfl) ?_
    refine SQ.nil ?_
    refine C.code ?_
    refine W.ret ?_
    refine C.ret1 Tryd.results3 rfl ?_
    exact ⟨rfl, hEw⟩
  · intro hb1_7
    try simp only [decide_eq_true_eq, decide_eq_false_iff_not, Bool.not_eq_true', Bool.not_eq_false', Bool.not_true, Bool.not_false, Bool.not_eq_true, Bool.not_eq_false] at hb1_7
    refine SQ.guarded rfl rfl rfl rfl rfl ?_
    refine SQ.op rfl rfl rfl (r_loadAgg rfl rfl Tryd.isAgg25 Tryd.sizeOf25 rfl (by first | exact hB4.cells | exact hB3.cells | assumption)) ?_
    refine SQ.guarded rfl rfl rfl rfl rfl ?_
    have hsz20 := hEw.size
    refine SQ.call rfl rfl rfl (rc_func rfl rfl Tryd.call8) (Size_spec y Ay cy N _ hTy (by have := hEw.size; omega) hsy) ?_
    rintro _ wv21 ⟨rfl, hE22⟩
    refine ⟨_, rfl, ?_⟩
    replace hTx := hTx.ext hE22
    replace hTy := hTy.ext hE22
    replace hG := hG.ext hE22
    replace hB3 := hB3.ext hE22
    replace hB4 := hB4.ext hE22
    replace hEw := hEw.ext hE22
    refine SQ.guarded rfl rfl rfl rfl rfl ?_
    refine SQ.op rfl rfl rfl (r_gtr rfl rfl rfl) ?_
    refine SQ.op rfl rfl rfl (r_pick_f rfl rfl rfl) ?_
    refine SQ.opB rfl rfl rfl (r_move rfl rfl) ?_ ?_
    · intro hb1_12
      try simp only [decide_eq_true_eq, decide_eq_false_iff_not, Bool.not_eq_true', Bool.not_eq_false', Bool.not_true, Bool.not_false, Bool.not_eq_true, Bool.not_eq_false] at hb1_12
      refine SQ.skip rfl rfl rfl rfl rfl rfl rfl ?_
      refine SQ.skip rfl rfl rfl rfl rfl rfl rfl ?_
      refine SQ.op rfl rfl rfl (r_pick_t rfl rfl rfl) ?_
      refine SQ.nil ?_
      refine C.code ?_
      refine W.cond_t rfl ?_
      refine W.seq ?_
      refine W.region ?_
      have hsz23 := hEw.size
      refine SQ.call rfl rfl rfl (rc_func rfl rfl Tryd.call7) (alive_spec _ hG) ?_
      rintro _ wv24 ⟨rfl, hE25⟩
      refine ⟨_, rfl, ?_⟩
      replace hTx := hTx.ext hE25
      replace hTy := hTy.ext hE25
      replace hG := hG.ext hE25
      replace hB3 := hB3.ext hE25
      replace hB4 := hB4.ext hE25
      replace hEw := hEw.ext hE25
      refine SQ.op rfl rfl rfl (r_assign rfl rfl) ?_
      refine SQ.nil ?_
      refine C.code ?_
      refine W.ret ?_
      refine C.ret1 Tryd.results3 rfl ?_
      exact ⟨rfl, hEw⟩
    · intro hb1_12
      try simp only [decide_eq_true_eq, decide_eq_false_iff_not, Bool.not_eq_true', Bool.not_eq_false', Bool.not_true, Bool.not_false, Bool.not_eq_true, Bool.not_eq_false] at hb1_12
      refine SQ.guarded rfl rfl rfl rfl rfl ?_
      refine SQ.op rfl rfl rfl (r_move rfl rfl) ?_
      refine SQ.guarded rfl rfl rfl rfl rfl ?_
      refine SQ.op rfl rfl rfl (r_eqlInt rfl rfl rfl) ?_
      refine SQ.op rfl rfl rfl (r_pick_f rfl rfl rfl) ?_
      refine SQ.nil ?_
      refine C.code ?_
      refine W.cond rfl ?_ ?_
      · intro hc26
        try simp only [decide_eq_true_eq, decide_eq_false_iff_not, Bool.not_eq_true', Bool.not_eq_false', Bool.not_true, Bool.not_false, Bool.not_eq_true, Bool.not_eq_false] at hc26
        refine W.seq ?_
        refine W.region ?_
        have hsz27 := hEw.size
        refine SQ.call rfl rfl rfl (rc_func rfl rfl Tryd.call7) (alive_spec _ hG) ?_
        rintro _ wv28 ⟨rfl, hE29⟩
        refine ⟨_, rfl, ?_⟩
        replace hTx := hTx.ext hE29
        replace hTy := hTy.ext hE29
        replace hG := hG.ext hE29
        replace hB3 := hB3.ext hE29
        replace hB4 := hB4.ext hE29
        replace hEw := hEw.ext hE29
        refine SQ.op rfl rfl rfl (r_assign rfl rfl) ?_
        refine SQ.nil ?_
        refine C.code ?_
        refine W.ret ?_
        refine C.ret1 Tryd.results3 rfl ?_
        exact ⟨rfl, hEw⟩
      · intro hc26
        try simp only [decide_eq_true_eq, decide_eq_false_iff_not, Bool.not_eq_true', Bool.not_eq_false', Bool.not_true, Bool.not_false, Bool.not_eq_true, Bool.not_eq_false] at hc26
        refine W.skip ?_
        refine C.code ?_
        refine W.seq ?_
        refine W.region ?_
        refine SQ.op rfl rfl rfl (r_loadAgg rfl rfl Tryd.isAgg25 Tryd.sizeOf25 rfl (by first | exact hB4.cells | exact hB3.cells | assumption)) ?_
        have hszr := hEw.size
        have hx3 : x.sz ≤ 3000 ∧ y.sz ≤ 3000 ∧ o ≠ 3 := ⟨by first | (simp only [decide_eq_false_iff_not] at *; omega) | omega, by first | (simp only [decide_eq_false_iff_not] at *; omega) | omega, by first | assumption | (intro h; simp_all)⟩
        obtain ⟨hx3, hy3, ho3⟩ := hx3
        refine SQ.call rfl rfl rfl (rc_func rfl rfl Tryd.call9) (Refs_spec x _ _ (World.heap wv21).size _ (hTx.mono (by intro b hb; omega)) rfl (by first | omega | (rw [sz_def]; simp only [Ex.nm, Ex.args, szs, List.length_cons, List.length_nil]; have := hszE; omega))) ?_
        rintro _ wv30 ⟨va, ba, rfl, _, hOa, hE31⟩
        obtain ⟨Aa, ca, Na, rfl, hNa, hRa⟩ := RfAt.row hOa
        clear hOa
        refine ⟨_, rfl, ?_⟩
        replace hTx := hTx.ext hE31
        replace hTy := hTy.ext hE31
        replace hG := hG.ext hE31
        replace hB3 := hB3.ext hE31
        replace hB4 := hB4.ext hE31
        replace hEw := hEw.ext hE31
        refine SQ.op rfl rfl rfl (r_assign rfl rfl) ?_
        refine SQ.nil ?_
        refine C.code ?_
        refine W.seq ?_
        refine W.region ?_
        refine SQ.op rfl rfl rfl (r_loadAgg rfl rfl Tryd.isAgg25 Tryd.sizeOf25 rfl (by first | exact hB4.cells | exact hB3.cells | assumption)) ?_
        have hszr := hEw.size
        refine SQ.call rfl rfl rfl (rc_func rfl rfl Tryd.call9) (Refs_spec y _ _ (World.heap wv30).size _ (hTy.mono (by intro b hb; omega)) rfl (by first | omega | (rw [sz_def]; simp only [Ex.nm, Ex.args, szs, List.length_cons, List.length_nil]; have := hszE; omega))) ?_
        rintro _ wv32 ⟨vb, bb, rfl, _, hOb, hE33⟩
        obtain ⟨Ab, cb, Nb, rfl, hNb, hRb⟩ := RfAt.row hOb
        clear hOb
        refine ⟨_, rfl, ?_⟩
        replace hTx := hTx.ext hE33
        replace hTy := hTy.ext hE33
        replace hG := hG.ext hE33
        replace hB3 := hB3.ext hE33
        replace hB4 := hB4.ext hE33
        replace hNa := hNa.ext hE33
        replace hRa := hRa.ext hE33
        replace hEw := hEw.ext hE33
        refine SQ.op rfl rfl rfl (r_assign rfl rfl) ?_
        refine SQ.nil ?_
        refine C.code ?_
        refine W.seq ?_
        refine W.region ?_
        refine SQ.op rfl rfl rfl (r_loadAgg rfl rfl Tryd.isAgg25 Tryd.sizeOf25 rfl (by first | exact hB4.cells | exact hB3.cells | assumption)) ?_
        have hsz38 := hEw.size
        refine SQ.new (v := (fun nb => .slice (some ⟨nb, 0, none⟩) 1 1)) rfl rfl rfl (r_buildSlice rfl rfl Tryd.underlying23 Tryd.sizeOf25 Tryd.zeroValue25 rfl rfl rfl rfl rfl) ?_
        intro nb39 wv34 hge35 hlt36 hB39 hE37
        have hge_hG_hB39 := Nat.le_trans hG.size hge35
        have hlt_hB3_hB39 := Nat.lt_of_lt_of_le hB3.lt hge35
        have hlt_hB4_hB39 := Nat.lt_of_lt_of_le hB4.lt hge35
        have hge_hNa_hB39 := Nat.le_trans hNa.le hge35
        have hge_hNb_hB39 := Nat.le_trans hNb.le hge35
        replace hTx := hTx.ext hE37
        replace hTy := hTy.ext hE37
        replace hG := hG.ext hE37
        replace hB3 := hB3.ext hE37
        replace hB4 := hB4.ext hE37
        replace hNa := hNa.ext hE37
        replace hRa := hRa.ext hE37
        replace hNb := hNb.ext hE37
        replace hRb := hRb.ext hE37
        replace hEw := hEw.ext hE37
        replace hB39 : Blk wv34 nb39 _ _ := hB39
        have hsz39 := hEw.size
        refine SQ.call rfl rfl rfl (rc_func rfl rfl Tryd.call10) (of_spec _ _ _ _ _) ?_
        rintro _ wv40 ⟨rfl, hE41⟩
        refine ⟨_, rfl, ?_⟩
        replace hTx := hTx.ext hE41
        replace hTy := hTy.ext hE41
        replace hG := hG.ext hE41
        replace hB3 := hB3.ext hE41
        replace hB4 := hB4.ext hE41
        replace hNa := hNa.ext hE41
        replace hRa := hRa.ext hE41
        replace hNb := hNb.ext hE41
        replace hRb := hRb.ext hE41
        replace hB39 := hB39.ext hE41
        replace hEw := hEw.ext hE41
        have hszr := hEw.size
        refine SQ.call rfl rfl rfl (rc_func rfl rfl Tryd.call9) (Refs_spec (.mk 19 0 ⟨#[]⟩ [x]) _ _ (World.heap wv40).size _ (Tr.mk1 hB39 hB39.lt (hTx.mono (by intro b hb; omega))) rfl (by first | omega | (rw [sz_def]; simp only [Ex.nm, Ex.args, szs, List.length_cons, List.length_nil]; have := hszE; omega))) ?_
        rintro _ wv42 ⟨vp, bp, rfl, _, hOp, hE43⟩
        obtain ⟨Ap, cp, Np, rfl, hNp, hRp⟩ := RfAt.row hOp
        clear hOp
        refine ⟨_, rfl, ?_⟩
        replace hTx := hTx.ext hE43
        replace hTy := hTy.ext hE43
        replace hG := hG.ext hE43
        replace hB3 := hB3.ext hE43
        replace hB4 := hB4.ext hE43
        replace hNa := hNa.ext hE43
        replace hRa := hRa.ext hE43
        replace hNb := hNb.ext hE43
        replace hRb := hRb.ext hE43
        replace hB39 := hB39.ext hE43
        replace hEw := hEw.ext hE43
        refine SQ.op rfl rfl rfl (r_assign rfl rfl) ?_
        refine SQ.nil ?_
        refine C.code ?_
        refine W.seq ?_
        refine W.region ?_
        refine SQ.op rfl rfl rfl (r_assign rfl rfl) ?_
        refine SQ.nil ?_
        refine C.code ?_
        refine W.cut (α := Unit) (fun _ => [(2, .int .u8 o), (3, .pointer (some ⟨nb3, 0, none⟩)), (4, .pointer (some ⟨nb4, 0, none⟩)), (7, .slice Aa (gather x 0 []).length ca), (8, .slice Ab (gather y 0 []).length cb), (9, .slice Ap (gather (.mk 19 0 ⟨#[]⟩ [x]) 0 []).length cp), (10, .int .i64 (if o = 19 then 1 else 0))]) (fun _ w1 => RfAt w1 Na Aa (gather x 0 []) ∧ RfAt w1 Nb Ab (gather y 0 []) ∧ RfAt w1 Np Ap (gather (.mk 19 0 ⟨#[]⟩ [x]) 0 []) ∧ Sz Na w1 ∧ Sz Nb w1 ∧ Sz Np w1 ∧ Blk w1 nb3 (x.cs Ax cx) 25 ∧ Blk w1 nb4 (y.cs Ay cy) 25 ∧ Tr w1 (fun b => b < N) x Ax cx ∧ Tr w1 (fun b => b < N) y Ay cy ∧ Gl w1 ∧ Ext w w1) ?_ ?_
        · refine W.seq ?_
          refine W.region ?_
          refine SQ.op rfl rfl rfl (r_move rfl rfl) ?_
          refine SQ.op rfl rfl rfl (r_eqlInt rfl rfl rfl) ?_
          refine SQ.nil ?_
          refine C.code ?_
          refine W.cond rfl ?_ ?_
          · intro hc44
            try simp only [decide_eq_true_eq, decide_eq_false_iff_not, Bool.not_eq_true', Bool.not_eq_false', Bool.not_true, Bool.not_false, Bool.not_eq_true, Bool.not_eq_false] at hc44
            refine W.region ?_
            refine SQ.op rfl rfl rfl (r_assign rfl rfl) ?_
            refine SQ.nil ?_
            refine C.cut () ⟨rfl, rfl, rfl, rfl, rfl, rfl, by first | (rw [if_pos (by assumption)]; rfl) | (rw [if_neg (by assumption)]; rfl), trivial⟩ ⟨hRa, hRb, hRp, hNa, hNb, hNp, hB3, hB4, hTx, hTy, hG, hEw⟩
          · intro hc44
            try simp only [decide_eq_true_eq, decide_eq_false_iff_not, Bool.not_eq_true', Bool.not_eq_false', Bool.not_true, Bool.not_false, Bool.not_eq_true, Bool.not_eq_false] at hc44
            refine W.skip ?_
            refine C.cut () ⟨rfl, rfl, rfl, rfl, rfl, rfl, by first | (rw [if_pos (by assumption)]; rfl) | (rw [if_neg (by assumption)]; rfl), trivial⟩ ⟨hRa, hRb, hRp, hNa, hNb, hNp, hB3, hB4, hTx, hTy, hG, hEw⟩
        · rintro _ wm ⟨hRa, hRb, hRp, hNa, hNb, hNp, hB3, hB4, hTx, hTy, hG, hEw⟩
          refine W.seq ?_
          refine W.region ?_
          refine SQ.op rfl rfl rfl (r_assign rfl rfl) ?_
          refine SQ.nil ?_
          refine C.code ?_
          refine W.seq ?_
          refine W.seq ?_
          refine W.region ?_
          refine SQ.op rfl rfl rfl (r_assign rfl rfl) ?_
          refine SQ.nil ?_
          refine C.code ?_
          refine W.block ?_
          obtain ⟨base, hbase⟩ : ∃ b, b = (World.heap wm).size := ⟨_, rfl⟩
          have hbs : Sz base wm := ⟨by omega⟩
          have hba := hNa.le
          have hbb := hNb.le
          have hbp := hNp.le
          have hlx := gather_sz x 0 []
          have hly := gather_sz y 0 []
          simp only [List.length_nil, Nat.zero_add] at hlx hly
          have hbw := hEw.size
          have hb3 := hB3.lt
          have hb4 := hB4.lt
          have hbg := hG.size
          refine W.loop (α := Nat × Value) (fun g => [(2, .int .u8 o), (3, .pointer (some ⟨nb3, 0, none⟩)), (4, .pointer (some ⟨nb4, 0, none⟩)), (7, .slice Aa (gather x 0 []).length ca), (8, .slice Ab (gather y 0 []).length cb), (9, .slice Ap (gather (.mk 19 0 ⟨#[]⟩ [x]) 0 []).length cp), (10, .int .i64 (if o = 19 then 1 else 0)), (11, g.2), (12, .int .i64 (g.1 : Int))]) (fun g w1 => RfAt w1 Na Aa (gather x 0 []) ∧ RfAt w1 Nb Ab (gather y 0 []) ∧ RfAt w1 Np Ap (gather (.mk 19 0 ⟨#[]⟩ [x]) 0 []) ∧ Sz Na w1 ∧ Sz Nb w1 ∧ Sz Np w1 ∧ Blk w1 nb3 (x.cs Ax cx) 25 ∧ Blk w1 nb4 (y.cs Ay cy) 25 ∧ Tr w1 (fun b => b < N) x Ax cx ∧ Tr w1 (fun b => b < N) y Ay cy ∧ Gl w1 ∧ Ext w w1 ∧ Sz base w1 ∧ Ow w1 base 32 2 g.2 (wantR x y (if o = 19 then 1 else 0) g.1).length ((wantR x y (if o = 19 then 1 else 0) g.1).flatMap Rf.enc) ∧ g.1 ≤ (gather x 0 []).length + (gather y 0 []).length) (fun g => (gather x 0 []).length + (gather y 0 []).length - g.1) (0, .slice none 0 0) ⟨rfl, rfl, rfl, rfl, rfl, rfl, rfl, rfl, rfl, trivial⟩ ⟨hRa, hRb, hRp, hNa, hNb, hNp, hB3, hB4, hTx, hTy, hG, hEw, hbs, by simpa [wantR, dd] using Ow.nil _ _ _ _, by simp⟩ ?_
          rintro ⟨i, v⟩ wl ⟨hRa, hRb, hRp, hNa, hNb, hNp, hB3, hB4, hTx, hTy, hG, hEw, hbs, hO, hile⟩
          dsimp only at hO hile ⊢
          obtain ⟨Av, cv, rfl⟩ := hO.slice
          by_cases hi : i < (gather x 0 []).length + (gather y 0 []).length
          · have hlw := wantR_len x y (if o = 19 then 1 else 0) i
            obtain ⟨r, hr2⟩ : ∃ r, (gather x 0 [] ++ gather y 0 [])[i]? = some r := ⟨_, List.getElem?_eq_getElem (by simp; omega)⟩
            have hrr : 0 ≤ r.a ∧ r.a ≤ 3000 := by
              rcases List.mem_append.1 (List.mem_of_getElem? hr2) with h | h
              · have := gather_range h; omega
              · have := gather_range h; omega
            refine W.seq ?_
            refine W.seq ?_
            refine W.region ?_
            refine SQ.op rfl rfl rfl (r_move rfl rfl) ?_
            refine SQ.op rfl rfl rfl (r_move rfl rfl) ?_
            refine SQ.op rfl rfl rfl (r_lenSlice rfl rfl Tryd.underlying28) ?_
            refine SQ.op rfl rfl rfl (r_move rfl rfl) ?_
            refine SQ.op rfl rfl rfl (r_lenSlice rfl rfl Tryd.underlying28) ?_
            refine SQ.op rfl rfl rfl (r_add rfl rfl rfl (w64 (by omega))) ?_
            refine SQ.opD true rfl rfl rfl (r_lss rfl rfl rfl) (decide_eq_true (by omega)) ?_
            refine SQ.nil ?_
            refine C.code ?_
            refine W.cond_t rfl ?_
            refine W.skip ?_
            refine C.code ?_
            refine W.seq ?_
            refine W.block ?_
            refine W.seq ?_
            have hlO0 := hO.lt
            refine W.region ?_
            have hsz50 := hEw.size
            refine SQ.new (v := (fun nb => .pointer (some ⟨nb, 0, none⟩))) rfl rfl rfl (r_alloc rfl Tryd.zeroValue32) ?_
            intro nb13 wv46 hge47 hlt48 hB13 hE49
            have hge_hNa_hB13 := Nat.le_trans hNa.le hge47
            have hge_hNb_hB13 := Nat.le_trans hNb.le hge47
            have hge_hNp_hB13 := Nat.le_trans hNp.le hge47
            have hlt_hB3_hB13 := Nat.lt_of_lt_of_le hB3.lt hge47
            have hlt_hB4_hB13 := Nat.lt_of_lt_of_le hB4.lt hge47
            have hge_hG_hB13 := Nat.le_trans hG.size hge47
            have hge_hbs_hB13 := Nat.le_trans hbs.le hge47
            replace hRa := hRa.ext hE49
            replace hRb := hRb.ext hE49
            replace hRp := hRp.ext hE49
            replace hNa := hNa.ext hE49
            replace hNb := hNb.ext hE49
            replace hNp := hNp.ext hE49
            replace hB3 := hB3.ext hE49
            replace hB4 := hB4.ext hE49
            replace hTx := hTx.ext hE49
            replace hTy := hTy.ext hE49
            replace hG := hG.ext hE49
            replace hbs := hbs.ext hE49
            replace hO := hO.ext hE49
            replace hEw := hEw.ext hE49
            replace hB13 : Blk wv46 nb13 _ _ := hB13
            refine SQ.nil ?_
            refine C.code ?_
            refine W.cut (α := Unit) (fun _ => [(2, .int .u8 o), (3, .pointer (some ⟨nb3, 0, none⟩)), (4, .pointer (some ⟨nb4, 0, none⟩)), (7, .slice Aa (gather x 0 []).length ca), (8, .slice Ab (gather y 0 []).length cb), (9, .slice Ap (gather (.mk 19 0 ⟨#[]⟩ [x]) 0 []).length cp), (10, .int .i64 (if o = 19 then 1 else 0)), (11, .slice Av (wantR x y (if o = 19 then 1 else 0) i).length cv), (12, .int .i64 (i : Int)), (13, .pointer (some ⟨nb13, 0, none⟩))]) (fun _ w1 => RfAt w1 Na Aa (gather x 0 []) ∧ RfAt w1 Nb Ab (gather y 0 []) ∧ RfAt w1 Np Ap (gather (.mk 19 0 ⟨#[]⟩ [x]) 0 []) ∧ Sz Na w1 ∧ Sz Nb w1 ∧ Sz Np w1 ∧ Blk w1 nb3 (x.cs Ax cx) 25 ∧ Blk w1 nb4 (y.cs Ay cy) 25 ∧ Tr w1 (fun b => b < N) x Ax cx ∧ Tr w1 (fun b => b < N) y Ay cy ∧ Gl w1 ∧ Ext w w1 ∧ Sz base w1 ∧ Ow w1 base 32 2 (.slice Av (wantR x y (if o = 19 then 1 else 0) i).length cv) (wantR x y (if o = 19 then 1 else 0) i).length ((wantR x y (if o = 19 then 1 else 0) i).flatMap Rf.enc) ∧ Blk w1 nb13 r.enc 32) ?_ ?_
            · refine W.seq ?_
              by_cases hi1 : i < (gather x 0 []).length
              · obtain ⟨br, orr, rfl, hbr, hCr⟩ := hRa.get (i := i) (k := r) (by rw [List.getElem?_append_left hi1] at hr2; exact hr2)
                refine W.region ?_
                refine SQ.op rfl rfl rfl (r_move rfl rfl) ?_
                refine SQ.op rfl rfl rfl (r_move rfl rfl) ?_
                refine SQ.op rfl rfl rfl (r_lenSlice rfl rfl Tryd.underlying28) ?_
                refine SQ.opD true rfl rfl rfl (r_lss rfl rfl rfl) (decide_eq_true (by omega)) ?_
                refine SQ.nil ?_
                refine C.code ?_
                refine W.cond_t rfl ?_
                refine W.region ?_
                refine SQ.op rfl rfl rfl (r_move rfl rfl) ?_
                refine SQ.op rfl rfl rfl (r_move rfl rfl) ?_
                refine SQ.op rfl rfl rfl (r_indexAddr rfl rfl rfl Tryd.underlying28 Tryd.sizeOf32 rfl (by omega)) ?_
                refine SQ.op rfl rfl rfl (r_loadAgg rfl rfl Tryd.isAgg32 Tryd.sizeOf32 rfl (by first | exact hCr | exact hB13.cells | exact hB4.cells | exact hB3.cells | assumption)) ?_
                refine SQ.storeA rfl rfl rfl rfl rfl Tryd.sizeOf32 rfl hB13 ⟨rfl, rfl⟩ ?_
                intro wv51 hS53 hK52
                have hsz54 := hK52.size
                replace hRa := hRa.kp hK52 (by intro b hb hs; omega)
                replace hRb := hRb.kp hK52 (by intro b hb hs; omega)
                replace hRp := hRp.kp hK52 (by intro b hb hs; omega)
                replace hNa := hNa.kp hK52 trivial
                replace hNb := hNb.kp hK52 trivial
                replace hNp := hNp.kp hK52 trivial
                replace hB3 := hB3.kp hK52 (by omega)
                replace hB4 := hB4.kp hK52 (by omega)
                replace hTx := hTx.kp hK52 (by intro b hb hs; omega)
                replace hTy := hTy.kp hK52 (by intro b hb hs; omega)
                replace hG := hG.kp hK52 (by intro b hb hs; omega)
                replace hbs := hbs.kp hK52 trivial
                replace hO := hO.kp hK52 (by rintro _ rfl hq; have := hlO0 _ hq; omega)
                replace hCr := hCr.kp hK52 (by omega)
                replace hB13 : Blk wv51 _ _ _ := hS53
                clear hS53
                replace hEw := hEw.new hK52 (by intro b hb; subst hb; omega)
                refine SQ.nil ?_
                refine C.cut () ⟨rfl, rfl, rfl, rfl, rfl, rfl, rfl, rfl, rfl, rfl, trivial⟩ ⟨hRa, hRb, hRp, hNa, hNb, hNp, hB3, hB4, hTx, hTy, hG, hEw, hbs, hO, hB13⟩
              · obtain ⟨br, orr, rfl, hbr, hCr⟩ := hRb.get (i := i - (gather x 0 []).length) (k := r) (by rw [List.getElem?_append_right (by omega)] at hr2; exact hr2)
                refine W.region ?_
                refine SQ.op rfl rfl rfl (r_move rfl rfl) ?_
                refine SQ.op rfl rfl rfl (r_move rfl rfl) ?_
                refine SQ.op rfl rfl rfl (r_lenSlice rfl rfl Tryd.underlying28) ?_
                refine SQ.opD false rfl rfl rfl (r_lss rfl rfl rfl) (decide_eq_false (by omega)) ?_
                refine SQ.nil ?_
                refine C.code ?_
                refine W.cond_f rfl ?_
                refine W.region ?_
                refine SQ.op rfl rfl rfl (r_move rfl rfl) ?_
                refine SQ.op rfl rfl rfl (r_move rfl rfl) ?_
                refine SQ.op rfl rfl rfl (r_move rfl rfl) ?_
                refine SQ.op rfl rfl rfl (r_lenSlice rfl rfl Tryd.underlying28) ?_
                refine SQ.op rfl rfl rfl (r_sub rfl rfl rfl (w64 (by omega))) ?_
                refine SQ.op rfl rfl rfl (r_indexAddr rfl rfl rfl Tryd.underlying28 Tryd.sizeOf32 (show ((i : Int) - _) = ((i - (gather x 0 []).length : Nat) : Int) from by omega) (by omega)) ?_
                refine SQ.op rfl rfl rfl (r_loadAgg rfl rfl Tryd.isAgg32 Tryd.sizeOf32 rfl (by first | exact hCr | exact hB13.cells | exact hB4.cells | exact hB3.cells | assumption)) ?_
                refine SQ.storeA rfl rfl rfl rfl rfl Tryd.sizeOf32 rfl hB13 ⟨rfl, rfl⟩ ?_
                intro wv55 hS57 hK56
                have hsz58 := hK56.size
                replace hRa := hRa.kp hK56 (by intro b hb hs; omega)
                replace hRb := hRb.kp hK56 (by intro b hb hs; omega)
                replace hRp := hRp.kp hK56 (by intro b hb hs; omega)
                replace hNa := hNa.kp hK56 trivial
                replace hNb := hNb.kp hK56 trivial
                replace hNp := hNp.kp hK56 trivial
                replace hB3 := hB3.kp hK56 (by omega)
                replace hB4 := hB4.kp hK56 (by omega)
                replace hTx := hTx.kp hK56 (by intro b hb hs; omega)
                replace hTy := hTy.kp hK56 (by intro b hb hs; omega)
                replace hG := hG.kp hK56 (by intro b hb hs; omega)
                replace hbs := hbs.kp hK56 trivial
                replace hO := hO.kp hK56 (by rintro _ rfl hq; have := hlO0 _ hq; omega)
                replace hCr := hCr.kp hK56 (by omega)
                replace hB13 : Blk wv55 _ _ _ := hS57
                clear hS57
                replace hEw := hEw.new hK56 (by intro b hb; subst hb; omega)
                refine SQ.nil ?_
                refine C.cut () ⟨rfl, rfl, rfl, rfl, rfl, rfl, rfl, rfl, rfl, rfl, trivial⟩ ⟨hRa, hRb, hRp, hNa, hNb, hNp, hB3, hB4, hTx, hTy, hG, hEw, hbs, hO, hB13⟩
            · rintro _ wq ⟨hRa, hRb, hRp, hNa, hNb, hNp, hB3, hB4, hTx, hTy, hG, hEw, hbs, hO, hB13⟩
              refine W.seq ?_
              refine W.region ?_
              refine SQ.op rfl rfl rfl (r_fieldAddr rfl rfl Tryd.underlying32 rfl Tryd.sizeOf3 rfl) ?_
              refine SQ.op rfl rfl rfl (r_load rfl rfl Tryd.isAgg3 (by first | exact hB13.cell rfl | exact hB4.cell rfl | exact hB3.cell rfl | assumption)) ?_
              refine SQ.op rfl rfl rfl (r_move rfl rfl) ?_
              refine SQ.op rfl rfl rfl (r_add rfl rfl rfl (w64 (by omega))) ?_
              refine SQ.op rfl rfl rfl (r_fieldAddr rfl rfl Tryd.underlying32 rfl Tryd.sizeOf3 rfl) ?_
              refine SQ.store rfl rfl rfl rfl rfl Tryd.sizeOf3 rfl hB13 rfl ?_
              intro wv60 hS62 hK61
              have hsz63 := hK61.size
              replace hRa := hRa.kp hK61 (by intro b hb hs; omega)
              replace hRb := hRb.kp hK61 (by intro b hb hs; omega)
              replace hRp := hRp.kp hK61 (by intro b hb hs; omega)
              replace hNa := hNa.kp hK61 trivial
              replace hNb := hNb.kp hK61 trivial
              replace hNp := hNp.kp hK61 trivial
              replace hB3 := hB3.kp hK61 (by omega)
              replace hB4 := hB4.kp hK61 (by omega)
              replace hTx := hTx.kp hK61 (by intro b hb hs; omega)
              replace hTy := hTy.kp hK61 (by intro b hb hs; omega)
              replace hG := hG.kp hK61 (by intro b hb hs; omega)
              replace hbs := hbs.kp hK61 trivial
              replace hO := hO.kp hK61 (by rintro _ rfl hq; have := hlO0 _ hq; omega)
              replace hB13 : Blk wv60 _ _ _ := hS62
              clear hS62
              replace hEw := hEw.new hK61 (by intro b hb; subst hb; omega)
              refine SQ.nil ?_
              refine C.code ?_
              refine W.seq ?_
              refine W.region ?_
              refine SQ.op rfl rfl rfl (r_assign rfl rfl) ?_
              refine SQ.nil ?_
              refine C.code ?_
              refine W.seq ?_
              refine W.seq ?_
              refine W.region ?_
              refine SQ.op rfl rfl rfl (r_assign rfl rfl) ?_
              refine SQ.nil ?_
              refine C.code ?_
              refine W.block ?_
              refine W.loop (α := Nat) (fun k => [(2, .int .u8 o), (3, .pointer (some ⟨nb3, 0, none⟩)), (4, .pointer (some ⟨nb4, 0, none⟩)), (7, .slice Aa (gather x 0 []).length ca), (8, .slice Ab (gather y 0 []).length cb), (9, .slice Ap (gather (.mk 19 0 ⟨#[]⟩ [x]) 0 []).length cp), (10, .int .i64 (if o = 19 then 1 else 0)), (11, .slice Av (wantR x y (if o = 19 then 1 else 0) i).length cv), (12, .int .i64 (i : Int)), (13, .pointer (some ⟨nb13, 0, none⟩)), (14, .bool (decide (shf (if o = 19 then 1 else 0) r ∈ (wantR x y (if o = 19 then 1 else 0) i).take k))), (15, .int .i64 (k : Int))]) (fun k w1 => RfAt w1 Na Aa (gather x 0 []) ∧ RfAt w1 Nb Ab (gather y 0 []) ∧ RfAt w1 Np Ap (gather (.mk 19 0 ⟨#[]⟩ [x]) 0 []) ∧ Sz Na w1 ∧ Sz Nb w1 ∧ Sz Np w1 ∧ Blk w1 nb3 (x.cs Ax cx) 25 ∧ Blk w1 nb4 (y.cs Ay cy) 25 ∧ Tr w1 (fun b => b < N) x Ax cx ∧ Tr w1 (fun b => b < N) y Ay cy ∧ Gl w1 ∧ Ext w w1 ∧ Sz base w1 ∧ Ow w1 base 32 2 (.slice Av (wantR x y (if o = 19 then 1 else 0) i).length cv) (wantR x y (if o = 19 then 1 else 0) i).length ((wantR x y (if o = 19 then 1 else 0) i).flatMap Rf.enc) ∧ Blk w1 nb13 (shf (if o = 19 then 1 else 0) r).enc 32 ∧ k ≤ (wantR x y (if o = 19 then 1 else 0) i).length) (fun k => (wantR x y (if o = 19 then 1 else 0) i).length - k) 0 ⟨rfl, rfl, rfl, rfl, rfl, rfl, rfl, rfl, rfl, rfl, by simp; rfl, rfl, trivial⟩ ⟨hRa, hRb, hRp, hNa, hNb, hNp, hB3, hB4, hTx, hTy, hG, hEw, hbs, hO, hB13, by omega⟩ ?_
              rintro k wi ⟨hRa, hRb, hRp, hNa, hNb, hNp, hB3, hB4, hTx, hTy, hG, hEw, hbs, hO, hB13, hkle⟩
              by_cases hk : k < (wantR x y (if o = 19 then 1 else 0) i).length
              · obtain ⟨q, hq⟩ : ∃ q, (wantR x y (if o = 19 then 1 else 0) i)[k]? = some q := ⟨_, List.getElem?_eq_getElem hk⟩
                obtain ⟨gq, cq, hvq, hbq, _, hCq0⟩ := hO.cl (by omega)
                simp only [Value.slice.injEq] at hvq
                obtain ⟨rfl, _, rfl⟩ := hvq
                have hCq := hCq0.sub (g := Rf.enc) (z := 2) (fun _ => rfl) hq
                refine W.seq ?_
                refine W.seq ?_
                refine W.region ?_
                refine SQ.op rfl rfl rfl (r_move rfl rfl) ?_
                refine SQ.op rfl rfl rfl (r_move rfl rfl) ?_
                refine SQ.op rfl rfl rfl (r_lenSlice rfl rfl Tryd.underlying28) ?_
                refine SQ.opD true rfl rfl rfl (r_lss rfl rfl rfl) (decide_eq_true (by omega)) ?_
                refine SQ.nil ?_
                refine C.code ?_
                refine W.cond_t rfl ?_
                refine W.skip ?_
                refine C.code ?_
                refine W.seq ?_
                refine W.block ?_
                refine W.quiet mixed (by kernel_rfl) ?_
                refine QZ.op rfl rfl rfl (fun w' hE => r_move rfl rfl) ?_
                refine QZ.opB rfl rfl rfl (fun w' hE => r_move rfl rfl) ?_ ?_
                · intro hb22_1
                  try simp only [decide_eq_true_eq, decide_eq_false_iff_not, Bool.not_eq_true', Bool.not_eq_false', Bool.not_true, Bool.not_false, Bool.not_eq_true, Bool.not_eq_false] at hb22_1
                  refine QZ.skip rfl rfl rfl rfl rfl rfl rfl ?_
                  refine QZ.skip rfl rfl rfl rfl rfl rfl rfl ?_
                  refine QZ.skip rfl rfl rfl rfl rfl rfl rfl ?_
                  refine QZ.skip rfl rfl rfl rfl rfl rfl rfl ?_
                  refine QZ.skip rfl rfl rfl rfl rfl rfl rfl ?_
                  refine QZ.skip rfl rfl rfl rfl rfl rfl rfl ?_
                  refine QZ.op rfl rfl rfl (fun w' hE => r_pick_t rfl rfl rfl) ?_
                  refine QZ.op rfl rfl rfl (fun w' hE => r_assign rfl rfl) ?_
                  refine QZ.nil ?_
                  intro wv64 hE65
                  replace hRa := hRa.ext hE65
                  replace hRb := hRb.ext hE65
                  replace hRp := hRp.ext hE65
                  replace hNa := hNa.ext hE65
                  replace hNb := hNb.ext hE65
                  replace hNp := hNp.ext hE65
                  replace hB3 := hB3.ext hE65
                  replace hB4 := hB4.ext hE65
                  replace hTx := hTx.ext hE65
                  replace hTy := hTy.ext hE65
                  replace hG := hG.ext hE65
                  replace hbs := hbs.ext hE65
                  replace hO := hO.ext hE65
                  replace hB13 := hB13.ext hE65
                  replace hCq := hCq.ext hE65
                  replace hEw := hEw.ext hE65
                  refine C.code ?_
                  refine W.region ?_
                  refine SQ.op rfl rfl rfl (r_move rfl rfl) ?_
                  refine SQ.op rfl rfl rfl (r_add rfl rfl rfl (w64 (by omega))) ?_
                  refine SQ.op rfl rfl rfl (r_assign rfl rfl) ?_
                  refine SQ.nil ?_
                  refine C.round (k + 1) ⟨rfl, rfl, rfl, rfl, rfl, rfl, rfl, rfl, rfl, rfl, ?_, rfl, trivial⟩ ⟨hRa, hRb, hRp, hNa, hNb, hNp, hB3, hB4, hTx, hTy, hG, hEw, hbs, hO, hB13, by omega⟩ (by omega)
                  rw [mem_take_succ hq]
                  first | (simp only [*, Bool.true_or]; rfl) | (simp only [*, Bool.false_or, ← decide_rf]; rfl)
                · intro hb22_1
                  try simp only [decide_eq_true_eq, decide_eq_false_iff_not, Bool.not_eq_true', Bool.not_eq_false', Bool.not_true, Bool.not_false, Bool.not_eq_true, Bool.not_eq_false] at hb22_1
                  refine QZ.guarded rfl rfl rfl rfl rfl ?_
                  refine QZ.op rfl rfl rfl (fun w' hE => r_move rfl rfl) ?_
                  refine QZ.guarded rfl rfl rfl rfl rfl ?_
                  refine QZ.op rfl rfl rfl (fun w' hE => r_move rfl rfl) ?_
                  refine QZ.guarded rfl rfl rfl rfl rfl ?_
                  refine QZ.op rfl rfl rfl (fun w' hE => r_indexAddr rfl rfl rfl Tryd.underlying28 Tryd.sizeOf32 rfl (by omega)) ?_
                  refine QZ.guarded rfl rfl rfl rfl rfl ?_
                  refine QZ.op rfl rfl rfl (fun w' hE => r_loadAgg rfl rfl Tryd.isAgg32 Tryd.sizeOf32 rfl (by first | exact (fun j v hv => hE.cell (hCq j v hv)) | exact (fun j v hv => hE.cell (hB13.cells j v hv)) | exact (fun j v hv => hE.cell (hB4.cells j v hv)) | exact (fun j v hv => hE.cell (hB3.cells j v hv)) | assumption)) ?_
                  refine QZ.guarded rfl rfl rfl rfl rfl ?_
                  refine QZ.op rfl rfl rfl (fun w' hE => r_loadAgg rfl rfl Tryd.isAgg32 Tryd.sizeOf32 rfl (by first | exact (fun j v hv => hE.cell (hCq j v hv)) | exact (fun j v hv => hE.cell (hB13.cells j v hv)) | exact (fun j v hv => hE.cell (hB4.cells j v hv)) | exact (fun j v hv => hE.cell (hB3.cells j v hv)) | assumption)) ?_
                  refine QZ.guarded rfl rfl rfl rfl rfl ?_
                  refine QZ.op rfl rfl rfl (fun w' hE => r_eqlSI rfl rfl rfl refSI.choose_spec.choose_spec refG) ?_
                  refine QZ.op rfl rfl rfl (fun w' hE => r_pick_f rfl rfl rfl) ?_
                  refine QZ.op rfl rfl rfl (fun w' hE => r_assign rfl rfl) ?_
                  refine QZ.nil ?_
                  intro wv66 hE67
                  replace hRa := hRa.ext hE67
                  replace hRb := hRb.ext hE67
                  replace hRp := hRp.ext hE67
                  replace hNa := hNa.ext hE67
                  replace hNb := hNb.ext hE67
                  replace hNp := hNp.ext hE67
                  replace hB3 := hB3.ext hE67
                  replace hB4 := hB4.ext hE67
                  replace hTx := hTx.ext hE67
                  replace hTy := hTy.ext hE67
                  replace hG := hG.ext hE67
                  replace hbs := hbs.ext hE67
                  replace hO := hO.ext hE67
                  replace hB13 := hB13.ext hE67
                  replace hCq := hCq.ext hE67
                  replace hEw := hEw.ext hE67
                  refine C.code ?_
                  refine W.region ?_
                  refine SQ.op rfl rfl rfl (r_move rfl rfl) ?_
                  refine SQ.op rfl rfl rfl (r_add rfl rfl rfl (w64 (by omega))) ?_
                  refine SQ.op rfl rfl rfl (r_assign rfl rfl) ?_
                  refine SQ.nil ?_
                  refine C.round (k + 1) ⟨rfl, rfl, rfl, rfl, rfl, rfl, rfl, rfl, rfl, rfl, ?_, rfl, trivial⟩ ⟨hRa, hRb, hRp, hNa, hNb, hNp, hB3, hB4, hTx, hTy, hG, hEw, hbs, hO, hB13, by omega⟩ (by omega)
                  rw [mem_take_succ hq]
                  first | (simp only [*, Bool.true_or]; rfl) | (simp only [*, Bool.false_or, ← decide_rf]; rfl)
              · have hT : (wantR x y (if o = 19 then 1 else 0) i).take k = (wantR x y (if o = 19 then 1 else 0) i) := List.take_of_length_le (by omega)
                refine W.seq ?_
                refine W.seq ?_
                refine W.region ?_
                refine SQ.op rfl rfl rfl (r_move rfl rfl) ?_
                refine SQ.op rfl rfl rfl (r_move rfl rfl) ?_
                refine SQ.op rfl rfl rfl (r_lenSlice rfl rfl Tryd.underlying28) ?_
                refine SQ.opD false rfl rfl rfl (r_lss rfl rfl rfl) (decide_eq_false (by omega)) ?_
                refine SQ.nil ?_
                refine C.code ?_
                refine W.cond_f rfl ?_
                refine W.exit rfl ?_
                refine C.code ?_
                refine W.seq ?_
                refine W.region ?_
                refine SQ.op rfl rfl rfl (r_move rfl rfl) ?_
                refine SQ.op rfl rfl rfl (r_not rfl rfl) ?_
                refine SQ.nil ?_
                refine C.code ?_
                refine W.cond rfl ?_ ?_
                · intro hc68
                  try simp only [decide_eq_true_eq, decide_eq_false_iff_not, Bool.not_eq_true', Bool.not_eq_false', Bool.not_true, Bool.not_false, Bool.not_eq_true, Bool.not_eq_false] at hc68
                  refine W.region ?_
                  refine SQ.op rfl rfl rfl (r_move rfl rfl) ?_
                  refine SQ.op rfl rfl rfl (r_loadAgg rfl rfl Tryd.isAgg32 Tryd.sizeOf32 rfl (by first | exact hB13.cells | exact hB4.cells | exact hB3.cells | assumption)) ?_
                  have hsz73 := hEw.size
                  refine SQ.new (v := (fun nb => .slice (some ⟨nb, 0, none⟩) 1 1)) rfl rfl rfl (r_buildSlice rfl rfl Tryd.underlying28 Tryd.sizeOf32 Tryd.zeroValue32 rfl rfl rfl rfl rfl) ?_
                  intro nb92 wv69 hge70 hlt71 hB92 hE72
                  have hge_hNa_hB92 := Nat.le_trans hNa.le hge70
                  have hge_hNb_hB92 := Nat.le_trans hNb.le hge70
                  have hge_hNp_hB92 := Nat.le_trans hNp.le hge70
                  have hlt_hB3_hB92 := Nat.lt_of_lt_of_le hB3.lt hge70
                  have hlt_hB4_hB92 := Nat.lt_of_lt_of_le hB4.lt hge70
                  have hge_hG_hB92 := Nat.le_trans hG.size hge70
                  have hge_hbs_hB92 := Nat.le_trans hbs.le hge70
                  have hlt_hB13_hB92 := Nat.lt_of_lt_of_le hB13.lt hge70
                  replace hRa := hRa.ext hE72
                  replace hRb := hRb.ext hE72
                  replace hRp := hRp.ext hE72
                  replace hNa := hNa.ext hE72
                  replace hNb := hNb.ext hE72
                  replace hNp := hNp.ext hE72
                  replace hB3 := hB3.ext hE72
                  replace hB4 := hB4.ext hE72
                  replace hTx := hTx.ext hE72
                  replace hTy := hTy.ext hE72
                  replace hG := hG.ext hE72
                  replace hbs := hbs.ext hE72
                  replace hO := hO.ext hE72
                  replace hB13 := hB13.ext hE72
                  replace hEw := hEw.ext hE72
                  replace hB92 : Blk wv69 nb92 _ _ := hB92
                  have hszb := hEw.size
                  have hlO := hO.lt
                  have hlb := hB92.lt
                  refine SQ.appendC (base := base) (z := 2) (bytes := 24) rfl rfl rfl rfl Tryd.underlying28 Tryd.type32 rfl rfl rfl rfl rfl rfl rfl hO hB92.cells rfl (by intro u hu; exact rf_cells [shf (if o = 19 then 1 else 0) r] u (by simpa [Rf.enc, shf] using hu)) (by have := hbs.le; omega) (by omega) rfl ?_
                  intro v2 wv74 hO2 hK75 _
                  replace hRa := hRa.kp hK75 (by intro b hb hs; have := hlO _ hb; omega)
                  replace hRb := hRb.kp hK75 (by intro b hb hs; have := hlO _ hb; omega)
                  replace hRp := hRp.kp hK75 (by intro b hb hs; have := hlO _ hb; omega)
                  replace hNa := hNa.kp hK75 trivial
                  replace hNb := hNb.kp hK75 trivial
                  replace hNp := hNp.kp hK75 trivial
                  replace hB3 := hB3.kp hK75 (fun e => by have := (hlO0 _ e); omega)
                  replace hB4 := hB4.kp hK75 (fun e => by have := (hlO0 _ e); omega)
                  replace hTx := hTx.kp hK75 (by intro b hb hs; have := hlO _ hb; omega)
                  replace hTy := hTy.kp hK75 (by intro b hb hs; have := hlO _ hb; omega)
                  replace hG := hG.kp hK75 (by intro b hb hs; have := hlO _ hs; omega)
                  replace hbs := hbs.kp hK75 trivial
                  replace hB13 := hB13.kp hK75 (fun e => by have := (hlO0 _ e); omega)
                  replace hB92 := hB92.kp hK75 (fun e => by have := (hlO0 _ e); omega)
                  replace hEw := hEw.new hK75 (by intro b hb; have := hlO _ hb; omega)
                  replace hO := hO2
                  clear hO2
                  obtain ⟨A2, c2, rfl⟩ := hO.slice
                  refine SQ.op rfl rfl rfl (r_assign rfl rfl) ?_
                  refine SQ.nil ?_
                  refine C.code ?_
                  refine W.region ?_
                  refine SQ.op rfl rfl rfl (r_move rfl rfl) ?_
                  refine SQ.op rfl rfl rfl (r_add rfl rfl rfl (w64 (by omega))) ?_
                  refine SQ.op rfl rfl rfl (r_assign rfl rfl) ?_
                  refine SQ.nil ?_
                  rw [hT] at hc68
                  have hst : wantR x y (if o = 19 then 1 else 0) (i + 1) = (wantR x y (if o = 19 then 1 else 0) i) ++ [shf (if o = 19 then 1 else 0) r] := by rw [wantR_step hr2, ins, if_neg hc68]
                  refine C.round (i + 1, .slice A2 ((wantR x y (if o = 19 then 1 else 0) i).length + 1) c2) ⟨rfl, rfl, rfl, rfl, rfl, rfl, rfl, rfl, rfl, trivial⟩ ⟨hRa, hRb, hRp, hNa, hNb, hNp, hB3, hB4, hTx, hTy, hG, hEw, hbs, ?_, by dsimp only; omega⟩ (by dsimp only; omega)
                  dsimp only
                  rw [hst, List.length_append, List.flatMap_append]
                  exact hO
                · intro hc68
                  try simp only [decide_eq_true_eq, decide_eq_false_iff_not, Bool.not_eq_true', Bool.not_eq_false', Bool.not_true, Bool.not_false, Bool.not_eq_true, Bool.not_eq_false] at hc68
                  refine W.skip ?_
                  refine C.code ?_
                  refine W.region ?_
                  refine SQ.op rfl rfl rfl (r_move rfl rfl) ?_
                  refine SQ.op rfl rfl rfl (r_add rfl rfl rfl (w64 (by omega))) ?_
                  refine SQ.op rfl rfl rfl (r_assign rfl rfl) ?_
                  refine SQ.nil ?_
                  rw [hT] at hc68
                  have hst : wantR x y (if o = 19 then 1 else 0) (i + 1) = (wantR x y (if o = 19 then 1 else 0) i) := by rw [wantR_step hr2, ins, if_pos hc68]
                  refine C.round (i + 1, .slice Av (wantR x y (if o = 19 then 1 else 0) i).length cv) ⟨rfl, rfl, rfl, rfl, rfl, rfl, rfl, rfl, rfl, trivial⟩ ⟨hRa, hRb, hRp, hNa, hNb, hNp, hB3, hB4, hTx, hTy, hG, hEw, hbs, ?_, by dsimp only; omega⟩ (by dsimp only; omega)
                  dsimp only
                  rw [hst]
                  exact hO
          · refine W.seq ?_
            refine W.seq ?_
            refine W.region ?_
            refine SQ.op rfl rfl rfl (r_move rfl rfl) ?_
            refine SQ.op rfl rfl rfl (r_move rfl rfl) ?_
            refine SQ.op rfl rfl rfl (r_lenSlice rfl rfl Tryd.underlying28) ?_
            refine SQ.op rfl rfl rfl (r_move rfl rfl) ?_
            refine SQ.op rfl rfl rfl (r_lenSlice rfl rfl Tryd.underlying28) ?_
            refine SQ.op rfl rfl rfl (r_add rfl rfl rfl (w64 (by omega))) ?_
            refine SQ.opD false rfl rfl rfl (r_lss rfl rfl rfl) (decide_eq_false (by omega)) ?_
            refine SQ.nil ?_
            refine C.code ?_
            refine W.cond_f rfl ?_
            refine W.exit rfl ?_
            refine C.code ?_
            refine W.seq ?_
            refine W.seq ?_
            obtain ⟨Aw, cw, Nw, hvw, hNw, hRw⟩ := RfAt.row hO
            simp only [Value.slice.injEq] at hvw
            obtain ⟨rfl, _, rfl⟩ := hvw
            refine W.region ?_
            refine SQ.op rfl rfl rfl (r_move rfl rfl) ?_
            refine SQ.op rfl rfl rfl (r_lenSlice rfl rfl Tryd.underlying28) ?_
            refine SQ.op rfl rfl rfl (r_move rfl rfl) ?_
            refine SQ.op rfl rfl rfl (r_lenSlice rfl rfl Tryd.underlying28) ?_
            refine SQ.opD false rfl rfl rfl (r_neqInt rfl rfl rfl) (by rw [gather_pre, List.length_map]; simp) ?_
            refine SQ.op rfl rfl rfl (r_move rfl rfl) ?_
            refine SQ.guarded rfl rfl rfl rfl rfl ?_
            refine SQ.op rfl rfl rfl (r_move rfl rfl) ?_
            refine SQ.guarded rfl rfl rfl rfl rfl ?_
            refine SQ.op rfl rfl rfl (r_loadAgg rfl rfl Tryd.isAgg25 Tryd.sizeOf25 rfl (by first | exact hB4.cells | exact hB3.cells | assumption)) ?_
            refine SQ.guarded rfl rfl rfl rfl rfl ?_
            refine SQ.op rfl rfl rfl (r_loadAgg rfl rfl Tryd.isAgg25 Tryd.sizeOf25 rfl (by first | exact hB4.cells | exact hB3.cells | assumption)) ?_
            refine SQ.guarded rfl rfl rfl rfl rfl ?_
            have hsz80 := hEw.size
            refine SQ.new (v := (fun nb => .slice (some ⟨nb, 0, none⟩) 2 2)) rfl rfl rfl (r_buildSlice rfl rfl Tryd.underlying23 Tryd.sizeOf25 Tryd.zeroValue25 rfl rfl rfl rfl rfl) ?_
            intro nb103 wv76 hge77 hlt78 hB103 hE79
            have hge_hNa_hB103 := Nat.le_trans hNa.le hge77
            have hge_hNb_hB103 := Nat.le_trans hNb.le hge77
            have hge_hNp_hB103 := Nat.le_trans hNp.le hge77
            have hlt_hB3_hB103 := Nat.lt_of_lt_of_le hB3.lt hge77
            have hlt_hB4_hB103 := Nat.lt_of_lt_of_le hB4.lt hge77
            have hge_hG_hB103 := Nat.le_trans hG.size hge77
            have hge_hbs_hB103 := Nat.le_trans hbs.le hge77
            have hge_hNw_hB103 := Nat.le_trans hNw.le hge77
            replace hRa := hRa.ext hE79
            replace hRb := hRb.ext hE79
            replace hRp := hRp.ext hE79
            replace hNa := hNa.ext hE79
            replace hNb := hNb.ext hE79
            replace hNp := hNp.ext hE79
            replace hB3 := hB3.ext hE79
            replace hB4 := hB4.ext hE79
            replace hTx := hTx.ext hE79
            replace hTy := hTy.ext hE79
            replace hG := hG.ext hE79
            replace hbs := hbs.ext hE79
            replace hO := hO.ext hE79
            replace hNw := hNw.ext hE79
            replace hRw := hRw.ext hE79
            replace hEw := hEw.ext hE79
            replace hB103 : Blk wv76 nb103 _ _ := hB103
            refine SQ.guarded rfl rfl rfl rfl rfl ?_
            have hsz81 := hEw.size
            refine SQ.call rfl rfl rfl (rc_func rfl rfl Tryd.call10) (of_spec _ _ _ _ _) ?_
            rintro _ wv82 ⟨rfl, hE83⟩
            refine ⟨_, rfl, ?_⟩
            replace hRa := hRa.ext hE83
            replace hRb := hRb.ext hE83
            replace hRp := hRp.ext hE83
            replace hNa := hNa.ext hE83
            replace hNb := hNb.ext hE83
            replace hNp := hNp.ext hE83
            replace hB3 := hB3.ext hE83
            replace hB4 := hB4.ext hE83
            replace hTx := hTx.ext hE83
            replace hTy := hTy.ext hE83
            replace hG := hG.ext hE83
            replace hbs := hbs.ext hE83
            replace hO := hO.ext hE83
            replace hNw := hNw.ext hE83
            replace hRw := hRw.ext hE83
            replace hB103 := hB103.ext hE83
            replace hEw := hEw.ext hE83
            refine SQ.guarded rfl rfl rfl rfl rfl ?_
            have hszr := hEw.size
            refine SQ.call rfl rfl rfl (rc_func rfl rfl Tryd.call9) (Refs_spec (.mk o 0 ⟨#[]⟩ [x, y]) _ _ (World.heap wv82).size _ (Tr.mk2 hB103 hB103.lt (hTx.mono (by intro b hb; omega)) (hTy.mono (by intro b hb; omega))) rfl (by first | omega | (rw [sz_def]; simp only [Ex.nm, Ex.args, szs, List.length_cons, List.length_nil]; have := hszE; omega))) ?_
            rintro _ wv84 ⟨ve, be, rfl, _, hOe, hE85⟩
            obtain ⟨Ae, ce, Ne, rfl, hNe, hRe⟩ := RfAt.row hOe
            clear hOe
            refine ⟨_, rfl, ?_⟩
            replace hRa := hRa.ext hE85
            replace hRb := hRb.ext hE85
            replace hRp := hRp.ext hE85
            replace hNa := hNa.ext hE85
            replace hNb := hNb.ext hE85
            replace hNp := hNp.ext hE85
            replace hB3 := hB3.ext hE85
            replace hB4 := hB4.ext hE85
            replace hTx := hTx.ext hE85
            replace hTy := hTy.ext hE85
            replace hG := hG.ext hE85
            replace hbs := hbs.ext hE85
            replace hO := hO.ext hE85
            replace hNw := hNw.ext hE85
            replace hRw := hRw.ext hE85
            replace hB103 := hB103.ext hE85
            replace hEw := hEw.ext hE85
            refine SQ.guarded rfl rfl rfl rfl rfl ?_
            refine SQ.op rfl rfl rfl (r_move rfl rfl) ?_
            refine SQ.guarded rfl rfl rfl rfl rfl ?_
            have hszs := hEw.size
            refine SQ.call rfl rfl rfl (rc_func rfl rfl Tryd.call11) (SameRefs_is _ _ Ae Av ce cv (World.heap wv84).size _ (hRe.mono hNe.le) (hRw.mono hNw.le) (Nat.le_refl _) (by have := gather_sz (.mk o 0 ⟨#[]⟩ [x, y]) 0 []; rw [sz_def] at this; simp only [Ex.nm, Ex.args, szs, List.length_cons, List.length_nil] at this; have := hszE; omega) (by rw [wantR_op x y o ho3, wantR_all x y _ i (by simp; omega)])) ?_
            rintro _ wv86 ⟨rfl, hE87⟩
            refine ⟨_, rfl, ?_⟩
            replace hRa := hRa.ext hE87
            replace hRb := hRb.ext hE87
            replace hRp := hRp.ext hE87
            replace hNa := hNa.ext hE87
            replace hNb := hNb.ext hE87
            replace hNp := hNp.ext hE87
            replace hB3 := hB3.ext hE87
            replace hB4 := hB4.ext hE87
            replace hTx := hTx.ext hE87
            replace hTy := hTy.ext hE87
            replace hG := hG.ext hE87
            replace hbs := hbs.ext hE87
            replace hO := hO.ext hE87
            replace hNw := hNw.ext hE87
            replace hRw := hRw.ext hE87
            replace hB103 := hB103.ext hE87
            replace hNe := hNe.ext hE87
            replace hRe := hRe.ext hE87
            replace hEw := hEw.ext hE87
            refine SQ.guarded rfl rfl rfl rfl rfl ?_
            refine SQ.op rfl rfl rfl (r_not rfl rfl) ?_
            refine SQ.op rfl rfl rfl (r_pick_f rfl rfl rfl) ?_
            refine SQ.nil ?_
            refine C.code ?_
            refine W.cond_f rfl ?_
            refine W.skip ?_
            refine C.code ?_
            refine W.seq ?_
            refine W.seq ?_
            refine W.region ?_
            refine SQ.op rfl rfl rfl (r_assign rfl rfl) ?_
            refine SQ.nil ?_
            refine C.code ?_
            refine W.block ?_
            refine W.loop (α := Nat) (fun i => [(7, .slice Aa (gather x 0 []).length ca), (9, .slice Ap (gather (.mk 19 0 ⟨#[]⟩ [x]) 0 []).length cp), (16, .int .i64 (i : Int))]) (fun i w1 => RfAt w1 Na Aa (gather x 0 []) ∧ RfAt w1 Np Ap (gather (.mk 19 0 ⟨#[]⟩ [x]) 0 []) ∧ Ext w w1 ∧ i ≤ (gather x 0 []).length) (fun i => (gather x 0 []).length - i) 0 ⟨rfl, rfl, rfl, trivial⟩ ⟨hRa, hRp, hEw, by omega⟩ ?_
            rintro i wz ⟨hRa, hRp, hEw, hile⟩
            by_cases hi : i < (gather x 0 []).length
            · obtain ⟨r, hr⟩ : ∃ r, (gather x 0 [])[i]? = some r := ⟨_, List.getElem?_eq_getElem hi⟩
              have hrr : 0 ≤ r.a ∧ r.a ≤ 3000 := by have := gather_range (List.mem_of_getElem? hr); omega
              have hrp : (gather (.mk 19 0 ⟨#[]⟩ [x]) 0 [])[i]? = some (shf 1 r) := by rw [gather_pre, List.getElem?_map, hr]; rfl
              obtain ⟨br, orr, rfl, hbr, hCr⟩ := hRa.get hr
              obtain ⟨bp, op, rfl, hbp, hCp⟩ := hRp.get hrp
              have hlp : (gather (.mk 19 0 ⟨#[]⟩ [x]) 0 []).length = (gather x 0 []).length := by rw [gather_pre, List.length_map]
              refine W.seq ?_
              refine W.seq ?_
              refine W.region ?_
              refine SQ.op rfl rfl rfl (r_move rfl rfl) ?_
              refine SQ.op rfl rfl rfl (r_move rfl rfl) ?_
              refine SQ.op rfl rfl rfl (r_lenSlice rfl rfl Tryd.underlying28) ?_
              refine SQ.opD true rfl rfl rfl (r_lss rfl rfl rfl) (decide_eq_true (by omega)) ?_
              refine SQ.nil ?_
              refine C.code ?_
              refine W.cond_t rfl ?_
              refine W.skip ?_
              refine C.code ?_
              refine W.seq ?_
              refine W.block ?_
              refine W.seq ?_
              refine W.quiet mixed (by kernel_rfl) ?_
              refine QZ.op rfl rfl rfl (fun w' hE => r_move rfl rfl) ?_
              refine QZ.op rfl rfl rfl (fun w' hE => r_move rfl rfl) ?_
              refine QZ.op rfl rfl rfl (fun w' hE => r_indexAddr rfl rfl rfl Tryd.underlying28 Tryd.sizeOf32 rfl (by omega)) ?_
              refine QZ.op rfl rfl rfl (fun w' hE => r_loadAgg rfl rfl Tryd.isAgg32 Tryd.sizeOf32 rfl (by first | exact (fun j v hv => hE.cell (hCp j v hv)) | exact (fun j v hv => hE.cell (hCr j v hv)) | assumption)) ?_
              refine QZ.op rfl rfl rfl (fun w' hE => r_move rfl rfl) ?_
              refine QZ.op rfl rfl rfl (fun w' hE => r_move rfl rfl) ?_
              refine QZ.op rfl rfl rfl (fun w' hE => r_indexAddr rfl rfl rfl Tryd.underlying28 Tryd.sizeOf32 rfl (by omega)) ?_
              refine QZ.op rfl rfl rfl (fun w' hE => r_fieldAddr rfl rfl Tryd.underlying32 rfl Tryd.sizeOf9 rfl) ?_
              refine QZ.op rfl rfl rfl (fun w' hE => r_load rfl rfl Tryd.isAgg9 (hE.cell (by first | exact hCp.cell rfl | exact hCr.cell rfl | assumption))) ?_
              refine QZ.op rfl rfl rfl (fun w' hE => r_move rfl rfl) ?_
              refine QZ.op rfl rfl rfl (fun w' hE => r_move rfl rfl) ?_
              refine QZ.op rfl rfl rfl (fun w' hE => r_indexAddr rfl rfl rfl Tryd.underlying28 Tryd.sizeOf32 rfl (by omega)) ?_
              refine QZ.op rfl rfl rfl (fun w' hE => r_fieldAddr rfl rfl Tryd.underlying32 rfl Tryd.sizeOf3 rfl) ?_
              refine QZ.op rfl rfl rfl (fun w' hE => r_load rfl rfl Tryd.isAgg3 (hE.cell (by first | exact hCp.cell rfl | exact hCr.cell rfl | assumption))) ?_
              refine QZ.op rfl rfl rfl (fun w' hE => r_add rfl rfl rfl (w64 (by omega))) ?_
              refine QZ.op rfl rfl rfl (fun w' hE => r_build (pl := [(0, 1), (1, 1)]) rfl rfl Tryd.underlying32 Tryd.zeroValue32 (fun _ => by kernel_rfl) rfl rfl) ?_
              refine QZ.opD false rfl rfl rfl (fun w' hE => r_neqSI rfl rfl rfl refSI.choose_spec.choose_spec refG) (by simp [shf]) ?_
              refine QZ.nil ?_
              intro wv88 hE89
              replace hRa := hRa.ext hE89
              replace hRp := hRp.ext hE89
              replace hCr := hCr.ext hE89
              replace hCp := hCp.ext hE89
              replace hEw := hEw.ext hE89
              refine C.code ?_
              refine W.cond_f rfl ?_
              refine W.skip ?_
              refine C.code ?_
              refine W.region ?_
              refine SQ.op rfl rfl rfl (r_move rfl rfl) ?_
              refine SQ.op rfl rfl rfl (r_add rfl rfl rfl (w64 (by omega))) ?_
              refine SQ.op rfl rfl rfl (r_assign rfl rfl) ?_
              refine SQ.nil ?_
              refine C.round (i + 1) ⟨rfl, rfl, rfl, trivial⟩ ⟨hRa, hRp, hEw, by omega⟩ (by omega)
            · refine W.seq ?_
              refine W.seq ?_
              refine W.region ?_
              refine SQ.op rfl rfl rfl (r_move rfl rfl) ?_
              refine SQ.op rfl rfl rfl (r_move rfl rfl) ?_
              refine SQ.op rfl rfl rfl (r_lenSlice rfl rfl Tryd.underlying28) ?_
              refine SQ.opD false rfl rfl rfl (r_lss rfl rfl rfl) (decide_eq_false (by omega)) ?_
              refine SQ.nil ?_
              refine C.code ?_
              refine W.cond_f rfl ?_
              refine W.exit rfl ?_
              refine C.code ?_
              refine W.seq ?_
              refine W.region ?_
              refine SQ.op rfl rfl rfl (r_assign rfl rfl) ?_
              refine SQ.nil ?_
              refine C.code ?_
              refine W.ret ?_
              refine C.ret1 Tryd.results3 rfl ?_
              exact ⟨rfl, hEw⟩


end Go.Proofs.YtclokcmgigdjlaaDoor
