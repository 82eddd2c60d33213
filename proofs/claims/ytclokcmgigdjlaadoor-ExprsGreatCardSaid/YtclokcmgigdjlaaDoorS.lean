/- Printed by this session's own program out of the translation, and by hand. -/
import Derived.Test.YtclokcmgigdjlaaDoorR
set_option linter.unusedVariables false
set_option linter.unusedSimpArgs false
set_option maxRecDepth 4000
namespace Go.Proofs.YtclokcmgigdjlaaDoor
open Go.FL Go.RowKit Go.Proofs

/-! ### What a tree asks for -/
mutual
def gather : Ex → Int → List Rf → List Rf
  | .mk o _ s l, a, L => gathers l (if o = 19 then a + 1 else a) (if o = 3 ∧ ¬ ⟨s, a⟩ ∈ L then L ++ [⟨s, a⟩] else L)
def gathers : List Ex → Int → List Rf → List Rf
  | [], _, L => L
  | x :: r, a, L => gathers r a (gather x a L)
end
def entsOf (L : List Rf) : List (ByteArray × Int × Value) := L.map fun r => (r.s, r.a, .bool true)
theorem lookS_of : ∀ (L : List Rf) (s : ByteArray) (a : Int), (lookS (entsOf L) s a).getD (.bool false) = .bool (decide (⟨s, a⟩ ∈ L))
  | [], s, a => by simp [entsOf, lookS]
  | r :: L, s, a => by
    have ih := lookS_of L s a
    simp only [entsOf, List.map_cons, lookS] at ih ⊢
    by_cases h : s = r.s ∧ a = r.a
    · rw [if_pos h]
      have : (⟨s, a⟩ : Rf) = r := by cases r; simp_all
      simp [this]
    · rw [if_neg h, ih]
      have : ¬ (⟨s, a⟩ : Rf) = r := by rintro rfl; exact h ⟨rfl, rfl⟩
      simp [this]
theorem lookS_none {L : List Rf} {s : ByteArray} {a : Int} (h : ¬ (⟨s, a⟩ : Rf) ∈ L) : lookS (entsOf L) s a = none := by
  induction L with
  | nil => simp [entsOf, lookS]
  | cons r L ih =>
    simp only [List.mem_cons, not_or] at h
    have hne : ¬ (s = r.s ∧ a = r.a) := by rintro ⟨rfl, rfl⟩; exact h.1 rfl
    simp only [entsOf, List.map_cons, lookS] at ih ⊢
    rw [if_neg hne]
    exact ih h.2
theorem entsOf_snoc (L : List Rf) (s : ByteArray) (a : Int) : entsOf (L ++ [⟨s, a⟩]) = entsOf L ++ [(s, a, .bool true)] := by simp [entsOf]
theorem gather_def (t : Ex) (a : Int) (L : List Rf) : gather t a L = gathers t.args (if t.op = 19 then a + 1 else a) (if t.op = 3 ∧ ¬ ⟨t.nm, a⟩ ∈ L then L ++ [⟨t.nm, a⟩] else L) := by cases t; rw [gather]; rfl
mutual
theorem gather_len : ∀ (t : Ex) (a : Int) (L : List Rf), L.length ≤ (gather t a L).length
  | .mk o n s l, a, L => by
    rw [gather]
    refine Nat.le_trans ?_ (gathers_len l _ _)
    split
    · simp
    · exact Nat.le_refl _
theorem gathers_len : ∀ (l : List Ex) (a : Int) (L : List Rf), L.length ≤ (gathers l a L).length
  | [], a, L => by rw [gathers]; exact Nat.le_refl _
  | x :: r, a, L => by rw [gathers]; exact Nat.le_trans (gather_len x a L) (gathers_len r a _)
end
theorem gather_first (t : Ex) (a : Int) (L : List Rf) : (if t.op = 3 ∧ ¬ (⟨t.nm, a⟩ : Rf) ∈ L then L ++ [⟨t.nm, a⟩] else L).length ≤ (gather t a L).length := by rw [gather_def]; exact gathers_len _ _ _
theorem gathers_step : ∀ (l : List Ex) (i : Nat) (x : Ex) (a : Int) (L : List Rf), l[i]? = some x → gathers (l.take (i + 1)) a L = gather x a (gathers (l.take i) a L)
  | [], _, _, _, _, h => by simp at h
  | y :: r, 0, x, a, L, h => by simp at h; subst h; simp [gathers]
  | y :: r, i + 1, x, a, L, h => by
    simp only [List.take_succ_cons, gathers]
    exact gathers_step r i x a _ (by simpa using h)
theorem gathers_take : ∀ (l : List Ex) (i : Nat) (a : Int) (L : List Rf), (gathers (l.take i) a L).length ≤ (gathers l a L).length
  | [], i, a, L => by simp
  | y :: r, 0, a, L => by simp only [List.take_zero]; rw [gathers]; exact gathers_len _ _ _
  | y :: r, i + 1, a, L => by simp only [List.take_succ_cons, gathers]; exact gathers_take r i a _
mutual
def Ex.sz : Ex → Nat
  | .mk _ _ s l => 1 + s.size + (l.length + szs l)
def szs : List Ex → Nat
  | [] => 0
  | x :: r => Ex.sz x + szs r
end
theorem sz_def (t : Ex) : t.sz = 1 + t.nm.size + (t.args.length + szs t.args) := by cases t; rw [Ex.sz]; rfl
theorem szs_take : ∀ (l : List Ex) (i : Nat), szs (l.take i) ≤ szs l
  | [], i => by simp
  | x :: r, 0 => by simp [szs]
  | x :: r, i + 1 => by simp only [List.take_succ_cons, szs]; have := szs_take r i; omega
theorem szs_step : ∀ (l : List Ex) (i : Nat) (x : Ex), l[i]? = some x → szs (l.take (i + 1)) = szs (l.take i) + x.sz
  | [], _, _, h => by simp at h
  | y :: r, 0, x, h => by simp at h; subst h; simp [szs]
  | y :: r, i + 1, x, h => by simp only [List.take_succ_cons, szs]; rw [szs_step r i x (by simpa using h)]; omega
theorem szs_mem : ∀ (l : List Ex) (i : Nat) (x : Ex), l[i]? = some x → x.sz ≤ szs l
  | [], _, _, h => by simp at h
  | y :: r, 0, x, h => by simp at h; subst h; simp [szs]
  | y :: r, i + 1, x, h => by simp only [szs]; have := szs_mem r i x (by simpa using h); omega
theorem Ex.child_sz {t x : Ex} {i : Nat} (h : t.args[i]? = some x) : x.sz < t.sz := by
  rw [sz_def t]; have := szs_mem _ _ _ h; omega
mutual
theorem gather_sz : ∀ (t : Ex) (a : Int) (L : List Rf), (gather t a L).length ≤ L.length + t.sz
  | .mk o n s l, a, L => by
    rw [gather, Ex.sz]
    refine Nat.le_trans (gathers_sz l _ _) ?_
    split
    · simp; omega
    · omega
theorem gathers_sz : ∀ (l : List Ex) (a : Int) (L : List Rf), (gathers l a L).length ≤ L.length + szs l
  | [], a, L => by rw [gathers]; omega
  | x :: r, a, L => by
    rw [gathers, szs]
    have h1 := gather_sz x a L
    have h2 := gathers_sz r a (gather x a L)
    omega
end

/-- The list that grows, and what is there. -/
structure Gs (w : World) (N mc lc gc mb base : Nat) (v : Value) (L : List Rf) : Prop where
  m : Blk w mc [.map (some mb)] 59
  mp : MpS w mb (entsOf L)
  l : Blk w lc [v] 28
  o : Ow w base 32 2 v L.length (L.flatMap Rf.enc)
  g : Blk w gc [.func (.func 21) #[] #[.pointer (some ⟨mc, 0, none⟩), .pointer (some ⟨lc, 0, none⟩), .pointer (some ⟨gc, 0, none⟩)]] 60
  h1 : N ≤ lc
  h2 : lc < mb
  h3 : mb < mc
  h4 : mc < gc
  h5 : gc < base
  h6 : base ≤ w.heap.size
def GoAt (t : Ex) : Prop := ∀ (A : Option Addr) (c N mc lc gc mb base : Nat) (v : Value) (L : List Rf) (a : Int) (w : World), Tr w (fun b => b < N) t A c → Gs w N mc lc gc mb base v L → 0 ≤ a → a + t.sz ≤ 1000000000000 → (gather t a L).length ≤ 1000000000 →
  Calls Tryd.prog 21 #[.agg (t.cs A c).toArray, .int .i64 a, .pointer (some ⟨mc, 0, none⟩), .pointer (some ⟨lc, 0, none⟩), .pointer (some ⟨gc, 0, none⟩)] w fun e w' => e = .returned (.tuple #[]) ∧ (∃ v', Gs w' N mc lc gc mb base v' (gather t a L)) ∧ Kp (fun b => N ≤ b) w w'

/-- belfry.exprs.Refs_1 -/
theorem go_step (t : Ex) (ih : ∀ (x : Ex) (i : Nat), t.args[i]? = some x → GoAt x) (A : Option Addr) (c N mc lc gc mb base : Nat) (v : Value) (L : List Rf) (a : Int) (w : World) (hT : Tr w (fun b => b < N) t A c) (hGs : Gs w N mc lc gc mb base v L) (ha : 0 ≤ a) (has : a + t.sz ≤ 1000000000000) (hlen : (gather t a L).length ≤ 1000000000) :
    Calls Tryd.prog 21 #[.agg (t.cs A c).toArray, .int .i64 a, .pointer (some ⟨mc, 0, none⟩), .pointer (some ⟨lc, 0, none⟩), .pointer (some ⟨gc, 0, none⟩)] w fun e w' => e = .returned (.tuple #[]) ∧ (∃ v', Gs w' N mc lc gc mb base v' (gather t a L)) ∧ Kp (fun b => N ≤ b) w w' := by
  obtain ⟨hM, hMp, hL, hO, hGo, h1, h2, h3, h4, h5, h6⟩ := hGs
  have hlt0 := hO.lt
  have hmc := hM.lt
  have hgc := hGo.lt
  have hsh : t.op = 3 → ¬ (⟨t.nm, a⟩ : Rf) ∈ L → L.length + 1 ≤ 1000000000 := fun e1 e2 => by
    have := gather_first t a L
    rw [if_pos ⟨e1, e2⟩] at this
    simp only [List.length_append, List.length_singleton] at this
    omega
  refine calls_of Tryd.func21 rfl Tryd.ntmps21 rfl ?_
  have hKw := Kp.refl (fun b => N ≤ b) w
  refine W.seq ?_
  refine W.region ?_
  have hsz5 := hKw.size
  refine SQ.new (v := (fun nb => .pointer (some ⟨nb, 0, none⟩))) rfl rfl rfl (r_box rfl rfl) ?_
  intro nb5 wv1 hge2 hlt3 hB5 hE4
  have hlt_hM_hB5 := Nat.lt_of_lt_of_le hM.lt hge2
  have hlt_hMp_hB5 := Nat.lt_of_lt_of_le hMp.lt hge2
  have hlt_hL_hB5 := Nat.lt_of_lt_of_le hL.lt hge2
  have hlt_hGo_hB5 := Nat.lt_of_lt_of_le hGo.lt hge2
  replace hT := hT.ext hE4
  replace hM := hM.ext hE4
  replace hMp := hMp.ext hE4
  replace hL := hL.ext hE4
  replace hO := hO.ext hE4
  replace hGo := hGo.ext hE4
  replace hKw := hKw.ext hE4
  replace hB5 : Blk wv1 nb5 _ _ := hB5
  refine SQ.nil ?_
  refine C.code ?_
  refine W.seq ?_
  refine W.region ?_
  refine SQ.op rfl rfl rfl (r_fieldAddr rfl rfl Tryd.underlying25 rfl Tryd.sizeOf9 rfl) ?_
  refine SQ.op rfl rfl rfl (r_load rfl rfl Tryd.isAgg9 (by first | exact hB5.cell rfl | exact hGo.cell rfl | exact hL.cell rfl | exact hM.cell rfl | assumption)) ?_
  refine SQ.op rfl rfl rfl (r_move rfl rfl) ?_
  refine SQ.op rfl rfl rfl (r_build (pl := [(0, 1), (1, 1)]) rfl rfl Tryd.underlying32 Tryd.zeroValue32 (fun _ => by kernel_rfl) rfl rfl) ?_
  have hsz10 := hKw.size
  refine SQ.new (v := (fun nb => .pointer (some ⟨nb, 0, none⟩))) rfl rfl rfl (r_alloc rfl Tryd.zeroValue32) ?_
  intro nb7 wv6 hge7 hlt8 hB7 hE9
  have hlt_hM_hB7 := Nat.lt_of_lt_of_le hM.lt hge7
  have hlt_hMp_hB7 := Nat.lt_of_lt_of_le hMp.lt hge7
  have hlt_hL_hB7 := Nat.lt_of_lt_of_le hL.lt hge7
  have hlt_hGo_hB7 := Nat.lt_of_lt_of_le hGo.lt hge7
  have hlt_hB5_hB7 := Nat.lt_of_lt_of_le hB5.lt hge7
  replace hT := hT.ext hE9
  replace hM := hM.ext hE9
  replace hMp := hMp.ext hE9
  replace hL := hL.ext hE9
  replace hO := hO.ext hE9
  replace hGo := hGo.ext hE9
  replace hB5 := hB5.ext hE9
  replace hKw := hKw.ext hE9
  replace hB7 : Blk wv6 nb7 _ _ := hB7
  refine SQ.storeA rfl rfl rfl rfl rfl Tryd.sizeOf32 rfl hB7 ⟨rfl, rfl⟩ ?_
  intro wv11 hS13 hK12
  have hsz14 := hK12.size
  replace hT := hT.kp hK12 (by intro b hb hs; omega)
  replace hM := hM.kp hK12 (by omega)
  replace hMp := hMp.kp hK12 (by omega)
  replace hL := hL.kp hK12 (by omega)
  replace hO := hO.kp hK12 (by rintro _ rfl hq; have := hlt0 _ hq; omega)
  replace hGo := hGo.kp hK12 (by omega)
  replace hB5 := hB5.kp hK12 (by omega)
  replace hB7 : Blk wv11 _ _ _ := hS13
  clear hS13
  replace hKw := hKw.both (hK12.mono (by intro b _ hb; subst hb; omega))
  refine SQ.nil ?_
  refine C.code ?_
  refine W.cut (α := Value) (fun v => [(1, .int .i64 a), (2, .pointer (some ⟨mc, 0, none⟩)), (3, .pointer (some ⟨lc, 0, none⟩)), (4, .pointer (some ⟨gc, 0, none⟩)), (5, .pointer (some ⟨nb5, 0, none⟩))]) (fun v w1 => Tr w1 (fun b => b < N) t A c ∧ Gs w1 N mc lc gc mb base v (if t.op = 3 ∧ ¬ (⟨t.nm, a⟩ : Rf) ∈ L then L ++ [⟨t.nm, a⟩] else L) ∧ Blk w1 nb5 (t.cs A c) 25 ∧ Kp (fun b => N ≤ b) w w1) ?_ ?_
  · refine W.seq ?_
    refine W.region ?_
    refine SQ.op rfl rfl rfl (r_fieldAddr rfl rfl Tryd.underlying25 rfl Tryd.sizeOf22 rfl) ?_
    refine SQ.op rfl rfl rfl (r_load rfl rfl Tryd.isAgg22 (by first | exact hB7.cell rfl | exact hB5.cell rfl | exact hGo.cell rfl | exact hL.cell rfl | exact hM.cell rfl | assumption)) ?_
    refine SQ.op rfl rfl rfl (r_eqlInt rfl rfl rfl) ?_
    refine SQ.opB rfl rfl rfl (r_move rfl rfl) ?_ ?_
    · intro hb2_3
      try simp only [decide_eq_true_eq, decide_eq_false_iff_not, Bool.not_eq_true', Bool.not_eq_false', Bool.not_true, Bool.not_false, Bool.not_eq_true, Bool.not_eq_false] at hb2_3
      refine SQ.guarded rfl rfl rfl rfl rfl ?_
      refine SQ.op rfl rfl rfl (r_load rfl rfl Tryd.isAgg59 (by first | exact hB7.cell rfl | exact hB5.cell rfl | exact hGo.cell rfl | exact hL.cell rfl | exact hM.cell rfl | assumption)) ?_
      refine SQ.guarded rfl rfl rfl rfl rfl ?_
      refine SQ.op rfl rfl rfl (r_loadAgg rfl rfl Tryd.isAgg32 Tryd.sizeOf32 rfl (by first | exact hB7.cells | exact hB5.cells | exact hGo.cells | exact hL.cells | exact hM.cells | assumption)) ?_
      refine SQ.guarded rfl rfl rfl rfl rfl ?_
      refine SQ.opB rfl rfl rfl (Run.to (r_lookupS rfl rfl rfl Tryd.underlying59 refSI.choose_spec.choose_spec Tryd.zeroValue4 hMp) (lookS_of L t.nm a)) ?_ ?_
      · intro hin
        simp only [decide_eq_true_eq, decide_eq_false_iff_not] at hin
        refine SQ.guarded rfl rfl rfl rfl rfl ?_
        refine SQ.op rfl rfl rfl (r_not rfl rfl) ?_
        refine SQ.op rfl rfl rfl (r_pick_t rfl rfl rfl) ?_
        refine SQ.nil ?_
        refine C.code ?_
        refine W.cond_f rfl ?_
        refine W.skip ?_
        first
          | (refine C.cut (.slice A2 (L.length + 1) c2) ⟨rfl, rfl, rfl, rfl, rfl, trivial⟩ ⟨hT, ?_, hB5, hKw⟩
             rw [if_pos ⟨by assumption, by assumption⟩]
             exact ⟨hM, by rw [entsOf_snoc]; exact hMp, hL, by rw [List.length_append, List.flatMap_append]; exact hO, hGo, h1, h2, h3, h4, h5, by have := hKw.size; omega⟩)
          | (refine C.cut v ⟨rfl, rfl, rfl, rfl, rfl, trivial⟩ ⟨hT, ?_, hB5, hKw⟩
             rw [if_neg (by simp [*])]
             exact ⟨hM, hMp, hL, hO, hGo, h1, h2, h3, h4, h5, by have := hKw.size; omega⟩)
      · intro hin
        simp only [decide_eq_true_eq, decide_eq_false_iff_not] at hin
        refine SQ.guarded rfl rfl rfl rfl rfl ?_
        refine SQ.op rfl rfl rfl (r_not rfl rfl) ?_
        refine SQ.op rfl rfl rfl (r_pick_t rfl rfl rfl) ?_
        refine SQ.nil ?_
        refine C.code ?_
        refine W.cond_t rfl ?_
        refine W.seq ?_
        refine W.region ?_
        refine SQ.op rfl rfl rfl (r_load rfl rfl Tryd.isAgg59 (by first | exact hB7.cell rfl | exact hB5.cell rfl | exact hGo.cell rfl | exact hL.cell rfl | exact hM.cell rfl | assumption)) ?_
        refine SQ.op rfl rfl rfl (r_loadAgg rfl rfl Tryd.isAgg32 Tryd.sizeOf32 rfl (by first | exact hB7.cells | exact hB5.cells | exact hGo.cells | exact hL.cells | exact hM.cells | assumption)) ?_
        refine SQ.updateS rfl rfl rfl rfl rfl rfl Tryd.underlying59 refSI.choose_spec.choose_spec hMp (lookS_none (by assumption)) ?_
        intro wv15 hM17 hK16
        replace hT := hT.kp hK16 (by intro b hb hs; omega)
        replace hM := hM.kp hK16 (by omega)
        replace hL := hL.kp hK16 (by omega)
        replace hO := hO.kp hK16 (by rintro _ rfl hq; have := hlt0 _ hq; omega)
        replace hGo := hGo.kp hK16 (by omega)
        replace hB5 := hB5.kp hK16 (by omega)
        replace hB7 := hB7.kp hK16 (by omega)
        replace hMp := hM17
        clear hM17
        replace hKw := hKw.both (hK16.mono (by intro b _ hb; subst hb; omega))
        refine SQ.nil ?_
        refine C.code ?_
        refine W.region ?_
        refine SQ.op rfl rfl rfl (r_load rfl rfl Tryd.isAgg28 (by first | exact hB7.cell rfl | exact hB5.cell rfl | exact hGo.cell rfl | exact hL.cell rfl | exact hM.cell rfl | assumption)) ?_
        refine SQ.op rfl rfl rfl (r_loadAgg rfl rfl Tryd.isAgg32 Tryd.sizeOf32 rfl (by first | exact hB7.cells | exact hB5.cells | exact hGo.cells | exact hL.cells | exact hM.cells | assumption)) ?_
        have hsz22 := hKw.size
        refine SQ.new (v := (fun nb => .slice (some ⟨nb, 0, none⟩) 1 1)) rfl rfl rfl (r_buildSlice rfl rfl Tryd.underlying28 Tryd.sizeOf32 Tryd.zeroValue32 rfl rfl rfl rfl rfl) ?_
        intro nb27 wv18 hge19 hlt20 hB27 hE21
        have hlt_hM_hB27 := Nat.lt_of_lt_of_le hM.lt hge19
        have hlt_hMp_hB27 := Nat.lt_of_lt_of_le hMp.lt hge19
        have hlt_hL_hB27 := Nat.lt_of_lt_of_le hL.lt hge19
        have hlt_hGo_hB27 := Nat.lt_of_lt_of_le hGo.lt hge19
        have hlt_hB5_hB27 := Nat.lt_of_lt_of_le hB5.lt hge19
        have hlt_hB7_hB27 := Nat.lt_of_lt_of_le hB7.lt hge19
        replace hT := hT.ext hE21
        replace hM := hM.ext hE21
        replace hMp := hMp.ext hE21
        replace hL := hL.ext hE21
        replace hO := hO.ext hE21
        replace hGo := hGo.ext hE21
        replace hB5 := hB5.ext hE21
        replace hB7 := hB7.ext hE21
        replace hKw := hKw.ext hE21
        replace hB27 : Blk wv18 nb27 _ _ := hB27
        have hszb := hKw.size
        refine SQ.append (z := 2) (bytes := 24) rfl rfl rfl rfl Tryd.underlying28 Tryd.type32 rfl rfl rfl rfl rfl rfl rfl hO hB27 rfl rfl (by omega) (by have := hsh (by assumption) hin; omega) rfl ?_
        intro v2 wa hO2 hKa
        obtain ⟨A2, c2, rfl⟩ := hO2.slice
        replace hT := hT.kp hKa (by intro b hb hs; have := hlt0 _ hb; omega)
        replace hM := hM.kp hKa (fun e => by have := hlt0 _ e; omega)
        replace hMp := hMp.kp hKa (fun e => by have := hlt0 _ e; omega)
        replace hL := hL.kp hKa (fun e => by have := hlt0 _ e; omega)
        replace hGo := hGo.kp hKa (fun e => by have := hlt0 _ e; omega)
        replace hB5 := hB5.kp hKa (fun e => by have := hlt0 _ e; omega)
        replace hB7 := hB7.kp hKa (fun e => by have := hlt0 _ e; omega)
        replace hB27 := hB27.kp hKa (fun e => by have := hlt0 _ e; omega)
        replace hKw := hKw.both (hKa.mono (by intro b _ hb; have := hlt0 _ hb; omega))
        replace hO := hO2
        clear hO2
        refine SQ.store rfl rfl rfl rfl rfl Tryd.sizeOf28 rfl hL rfl ?_
        intro wv23 hS25 hK24
        have hsz26 := hK24.size
        replace hT := hT.kp hK24 (by intro b hb hs; omega)
        replace hM := hM.kp hK24 (by omega)
        replace hMp := hMp.kp hK24 (by omega)
        replace hO := hO.kp hK24 (by rintro _ rfl hq; have := hO.lt _ hq; omega)
        replace hGo := hGo.kp hK24 (by omega)
        replace hB5 := hB5.kp hK24 (by omega)
        replace hB7 := hB7.kp hK24 (by omega)
        replace hB27 := hB27.kp hK24 (by omega)
        replace hL : Blk wv23 _ _ _ := hS25
        clear hS25
        replace hKw := hKw.both (hK24.mono (by intro b _ hb; subst hb; omega))
        refine SQ.nil ?_
        first
          | (refine C.cut (.slice A2 (L.length + 1) c2) ⟨rfl, rfl, rfl, rfl, rfl, trivial⟩ ⟨hT, ?_, hB5, hKw⟩
             rw [if_pos ⟨by assumption, by assumption⟩]
             exact ⟨hM, by rw [entsOf_snoc]; exact hMp, hL, by rw [List.length_append, List.flatMap_append]; exact hO, hGo, h1, h2, h3, h4, h5, by have := hKw.size; omega⟩)
          | (refine C.cut v ⟨rfl, rfl, rfl, rfl, rfl, trivial⟩ ⟨hT, ?_, hB5, hKw⟩
             rw [if_neg (by simp [*])]
             exact ⟨hM, hMp, hL, hO, hGo, h1, h2, h3, h4, h5, by have := hKw.size; omega⟩)
    · intro hb2_3
      try simp only [decide_eq_true_eq, decide_eq_false_iff_not, Bool.not_eq_true', Bool.not_eq_false', Bool.not_true, Bool.not_false, Bool.not_eq_true, Bool.not_eq_false] at hb2_3
      refine SQ.skip rfl rfl rfl rfl rfl rfl rfl ?_
      refine SQ.skip rfl rfl rfl rfl rfl rfl rfl ?_
      refine SQ.skip rfl rfl rfl rfl rfl rfl rfl ?_
      refine SQ.skip rfl rfl rfl rfl rfl rfl rfl ?_
      refine SQ.op rfl rfl rfl (r_pick_f rfl rfl rfl) ?_
      refine SQ.nil ?_
      refine C.code ?_
      refine W.cond_f rfl ?_
      refine W.skip ?_
      first
        | (refine C.cut (.slice A2 (L.length + 1) c2) ⟨rfl, rfl, rfl, rfl, rfl, trivial⟩ ⟨hT, ?_, hB5, hKw⟩
           rw [if_pos ⟨by assumption, by assumption⟩]
           exact ⟨hM, by rw [entsOf_snoc]; exact hMp, hL, by rw [List.length_append, List.flatMap_append]; exact hO, hGo, h1, h2, h3, h4, h5, by have := hKw.size; omega⟩)
        | (refine C.cut v ⟨rfl, rfl, rfl, rfl, rfl, trivial⟩ ⟨hT, ?_, hB5, hKw⟩
           rw [if_neg (by simp [*])]
           exact ⟨hM, hMp, hL, hO, hGo, h1, h2, h3, h4, h5, by have := hKw.size; omega⟩)
  · rintro v1 wc ⟨hT, hGs1, hB5, hKw⟩
    refine W.seq ?_
    refine W.seq ?_
    refine W.region ?_
    refine SQ.op rfl rfl rfl (r_fieldAddr rfl rfl Tryd.underlying25 rfl Tryd.sizeOf22 rfl) ?_
    refine SQ.op rfl rfl rfl (r_load rfl rfl Tryd.isAgg22 (by first | exact hB5.cell rfl | assumption)) ?_
    refine SQ.op rfl rfl rfl (r_eqlInt rfl rfl rfl) ?_
    refine SQ.nil ?_
    refine C.code ?_
    refine W.cond rfl ?_ ?_
    · intro hc28
      try simp only [decide_eq_true_eq, decide_eq_false_iff_not, Bool.not_eq_true', Bool.not_eq_false', Bool.not_true, Bool.not_false, Bool.not_eq_true, Bool.not_eq_false] at hc28
      refine W.region ?_
      refine SQ.op rfl rfl rfl (r_move rfl rfl) ?_
      refine SQ.op rfl rfl rfl (r_add rfl rfl rfl (w64 (by omega))) ?_
      refine SQ.op rfl rfl rfl (r_assign rfl rfl) ?_
      refine SQ.nil ?_
      refine C.code ?_
      refine W.seq ?_
      refine W.region ?_
      refine SQ.op rfl rfl rfl (r_fieldAddr rfl rfl Tryd.underlying25 rfl Tryd.sizeOf23 rfl) ?_
      refine SQ.op rfl rfl rfl (r_load rfl rfl Tryd.isAgg23 (by first | exact hB5.cell rfl | assumption)) ?_
      refine SQ.op rfl rfl rfl (r_lenSlice rfl rfl Tryd.underlying23) ?_
      refine SQ.op rfl rfl rfl (r_move rfl rfl) ?_
      refine SQ.nil ?_
      refine C.code ?_
      refine W.block ?_
      refine W.loop (α := Nat × Value) (fun g => [(1, .int .i64 (if t.op = 19 then a + 1 else a)), (4, .pointer (some ⟨gc, 0, none⟩)), (2, .pointer (some ⟨mc, 0, none⟩)), (3, .pointer (some ⟨lc, 0, none⟩)), (35, .slice A t.args.length c), (36, .int .i64 (t.args.length : Int)), (37, .int .i64 (g.1 : Int))]) (fun g w1 => Tr w1 (fun b => b < N) t A c ∧ Gs w1 N mc lc gc mb base g.2 (gathers (t.args.take g.1) (if t.op = 19 then a + 1 else a) (if t.op = 3 ∧ ¬ (⟨t.nm, a⟩ : Rf) ∈ L then L ++ [⟨t.nm, a⟩] else L)) ∧ Kp (fun b => N ≤ b) w w1 ∧ g.1 ≤ t.args.length) (fun g => t.args.length - g.1) (0, v1) ⟨by first | (rw [if_pos (by assumption)]; rfl) | (rw [if_neg (by assumption)]; rfl), rfl, rfl, rfl, rfl, rfl, rfl, trivial⟩ ⟨hT, by simpa [gathers] using hGs1, hKw, by simp⟩ ?_
      rintro ⟨i, v3⟩ wl ⟨hT, hGs, hKw, hile⟩
      have hlen9 := hT.len
      by_cases hi : i < t.args.length
      · obtain ⟨ba, oa, x, rfl, hx, hC, hTx, hSb⟩ := hT.child hi
        replace hSb : ba < N := hSb
        obtain ⟨hM, hMp, hL, hO, hGo, h1, h2, h3, h4, h5, h6⟩ := hGs
        have hlt3 := hO.lt
        have hga := hGo.lt
        refine W.seq ?_
        refine W.region ?_
        refine SQ.opD true rfl rfl rfl (r_lss rfl rfl rfl) (by simp; omega) ?_
        refine SQ.nil ?_
        refine C.code ?_
        refine W.seq ?_
        refine W.cond_t rfl ?_
        refine W.skip ?_
        refine C.code ?_
        refine W.seq ?_
        refine W.block ?_
        refine W.seq ?_
        refine W.region ?_
        refine SQ.op rfl rfl rfl (r_indexAddr rfl rfl rfl Tryd.underlying23 Tryd.sizeOf25 rfl (by omega)) ?_
        refine SQ.op rfl rfl rfl (r_loadAgg rfl rfl Tryd.isAgg25 Tryd.sizeOf25 rfl (by first | exact hGo.cells | exact hL.cells | exact hM.cells | exact hC | assumption)) ?_
        have hsz33 := hKw.size
        refine SQ.new (v := (fun nb => .pointer (some ⟨nb, 0, none⟩))) rfl rfl rfl (r_alloc rfl Tryd.zeroValue25) ?_
        intro nb9 wv29 hge30 hlt31 hB9 hE32
        have hlt_hM_hB9 := Nat.lt_of_lt_of_le hM.lt hge30
        have hlt_hMp_hB9 := Nat.lt_of_lt_of_le hMp.lt hge30
        have hlt_hL_hB9 := Nat.lt_of_lt_of_le hL.lt hge30
        have hlt_hGo_hB9 := Nat.lt_of_lt_of_le hGo.lt hge30
        replace hT := hT.ext hE32
        replace hC := hC.ext hE32
        replace hTx := hTx.ext hE32
        replace hM := hM.ext hE32
        replace hMp := hMp.ext hE32
        replace hL := hL.ext hE32
        replace hO := hO.ext hE32
        replace hGo := hGo.ext hE32
        replace hKw := hKw.ext hE32
        replace hB9 : Blk wv29 nb9 _ _ := hB9
        refine SQ.storeA rfl rfl rfl rfl rfl Tryd.sizeOf25 rfl hB9 ⟨rfl, rfl⟩ ?_
        intro wv34 hS36 hK35
        have hsz37 := hK35.size
        replace hT := hT.kp hK35 (by intro b hb hs; omega)
        replace hC := hC.kp hK35 (by omega)
        replace hTx := hTx.kp hK35 (by intro b hb hs; omega)
        replace hM := hM.kp hK35 (by omega)
        replace hMp := hMp.kp hK35 (by omega)
        replace hL := hL.kp hK35 (by omega)
        replace hO := hO.kp hK35 (by rintro _ rfl hq; have := hlt3 _ hq; omega)
        replace hGo := hGo.kp hK35 (by omega)
        replace hB9 : Blk wv34 _ _ _ := hS36
        clear hS36
        replace hKw := hKw.both (hK35.mono (by intro b _ hb; subst hb; omega))
        refine SQ.nil ?_
        refine C.code ?_
        refine W.region ?_
        refine SQ.op rfl rfl rfl (r_load rfl rfl Tryd.isAgg60 (by first | exact hB9.cell rfl | exact hGo.cell rfl | exact hL.cell rfl | exact hM.cell rfl | exact hC.cell rfl | assumption)) ?_
        refine SQ.op rfl rfl rfl (r_loadAgg rfl rfl Tryd.isAgg25 Tryd.sizeOf25 rfl (by first | exact hB9.cells | exact hGo.cells | exact hL.cells | exact hM.cells | exact hC | assumption)) ?_
        refine SQ.op rfl rfl rfl (r_move rfl rfl) ?_
        have hsz8 := hKw.size
        have hch := Ex.child_sz hx
        refine SQ.call rfl rfl rfl (rc_value (fs := []) (cs := [_, _, _]) rfl rfl rfl Tryd.call21) (ih x.t i hx x.A x.c N mc lc gc mb base v3 (gathers (t.args.take i) (if t.op = 19 then a + 1 else a) (if t.op = 3 ∧ ¬ (⟨t.nm, a⟩ : Rf) ∈ L then L ++ [⟨t.nm, a⟩] else L)) (if t.op = 19 then a + 1 else a) _ hTx ⟨hM, hMp, hL, hO, hGo, h1, h2, h3, h4, h5, by omega⟩ (by split <;> omega) (by split <;> omega) (by rw [← gathers_step t.args i _ _ _ hx]; rw [gather_def] at hlen; exact Nat.le_trans (gathers_take _ _ _ _) hlen)) ?_
        rintro _ wg ⟨rfl, ⟨v4, hGs4⟩, hKg⟩
        refine ⟨_, rfl, ?_⟩
        replace hT := hT.kp hKg (by intro b hb hs; omega)
        replace hKw := hKw.both hKg
        refine SQ.nil ?_
        refine C.code ?_
        refine W.region ?_
        refine SQ.op rfl rfl rfl (r_add rfl rfl rfl (w64 (by omega))) ?_
        refine SQ.op rfl rfl rfl (r_move rfl rfl) ?_
        refine SQ.nil ?_
        refine C.round (i + 1, v4) ⟨rfl, rfl, rfl, rfl, rfl, rfl, rfl, trivial⟩ ⟨hT, ?_, hKw, by dsimp only; omega⟩ (by dsimp only; omega)
        rw [gathers_step t.args i _ _ _ hx]; exact hGs4
      · obtain rfl : i = t.args.length := by omega
        rw [List.take_length] at hGs
        refine W.seq ?_
        refine W.region ?_
        refine SQ.opD false rfl rfl rfl (r_lss rfl rfl rfl) (by simp) ?_
        refine SQ.nil ?_
        refine C.code ?_
        refine W.seq ?_
        refine W.cond_f rfl ?_
        refine W.exit rfl ?_
        refine C.ret0 Tryd.results21 ?_
        rw [gather_def]
        exact ⟨rfl, ⟨_, hGs⟩, hKw⟩
    · intro hc28
      try simp only [decide_eq_true_eq, decide_eq_false_iff_not, Bool.not_eq_true', Bool.not_eq_false', Bool.not_true, Bool.not_false, Bool.not_eq_true, Bool.not_eq_false] at hc28
      refine W.skip ?_
      refine C.code ?_
      refine W.seq ?_
      refine W.region ?_
      refine SQ.op rfl rfl rfl (r_fieldAddr rfl rfl Tryd.underlying25 rfl Tryd.sizeOf23 rfl) ?_
      refine SQ.op rfl rfl rfl (r_load rfl rfl Tryd.isAgg23 (by first | exact hB5.cell rfl | assumption)) ?_
      refine SQ.op rfl rfl rfl (r_lenSlice rfl rfl Tryd.underlying23) ?_
      refine SQ.op rfl rfl rfl (r_move rfl rfl) ?_
      refine SQ.nil ?_
      refine C.code ?_
      refine W.block ?_
      refine W.loop (α := Nat × Value) (fun g => [(1, .int .i64 (if t.op = 19 then a + 1 else a)), (4, .pointer (some ⟨gc, 0, none⟩)), (2, .pointer (some ⟨mc, 0, none⟩)), (3, .pointer (some ⟨lc, 0, none⟩)), (35, .slice A t.args.length c), (36, .int .i64 (t.args.length : Int)), (37, .int .i64 (g.1 : Int))]) (fun g w1 => Tr w1 (fun b => b < N) t A c ∧ Gs w1 N mc lc gc mb base g.2 (gathers (t.args.take g.1) (if t.op = 19 then a + 1 else a) (if t.op = 3 ∧ ¬ (⟨t.nm, a⟩ : Rf) ∈ L then L ++ [⟨t.nm, a⟩] else L)) ∧ Kp (fun b => N ≤ b) w w1 ∧ g.1 ≤ t.args.length) (fun g => t.args.length - g.1) (0, v1) ⟨by first | (rw [if_pos (by assumption)]; rfl) | (rw [if_neg (by assumption)]; rfl), rfl, rfl, rfl, rfl, rfl, rfl, trivial⟩ ⟨hT, by simpa [gathers] using hGs1, hKw, by simp⟩ ?_
      rintro ⟨i, v3⟩ wl ⟨hT, hGs, hKw, hile⟩
      have hlen9 := hT.len
      by_cases hi : i < t.args.length
      · obtain ⟨ba, oa, x, rfl, hx, hC, hTx, hSb⟩ := hT.child hi
        replace hSb : ba < N := hSb
        obtain ⟨hM, hMp, hL, hO, hGo, h1, h2, h3, h4, h5, h6⟩ := hGs
        have hlt3 := hO.lt
        have hga := hGo.lt
        refine W.seq ?_
        refine W.region ?_
        refine SQ.opD true rfl rfl rfl (r_lss rfl rfl rfl) (by simp; omega) ?_
        refine SQ.nil ?_
        refine C.code ?_
        refine W.seq ?_
        refine W.cond_t rfl ?_
        refine W.skip ?_
        refine C.code ?_
        refine W.seq ?_
        refine W.block ?_
        refine W.seq ?_
        refine W.region ?_
        refine SQ.op rfl rfl rfl (r_indexAddr rfl rfl rfl Tryd.underlying23 Tryd.sizeOf25 rfl (by omega)) ?_
        refine SQ.op rfl rfl rfl (r_loadAgg rfl rfl Tryd.isAgg25 Tryd.sizeOf25 rfl (by first | exact hGo.cells | exact hL.cells | exact hM.cells | exact hC | assumption)) ?_
        have hsz42 := hKw.size
        refine SQ.new (v := (fun nb => .pointer (some ⟨nb, 0, none⟩))) rfl rfl rfl (r_alloc rfl Tryd.zeroValue25) ?_
        intro nb9 wv38 hge39 hlt40 hB9 hE41
        have hlt_hM_hB9 := Nat.lt_of_lt_of_le hM.lt hge39
        have hlt_hMp_hB9 := Nat.lt_of_lt_of_le hMp.lt hge39
        have hlt_hL_hB9 := Nat.lt_of_lt_of_le hL.lt hge39
        have hlt_hGo_hB9 := Nat.lt_of_lt_of_le hGo.lt hge39
        replace hT := hT.ext hE41
        replace hC := hC.ext hE41
        replace hTx := hTx.ext hE41
        replace hM := hM.ext hE41
        replace hMp := hMp.ext hE41
        replace hL := hL.ext hE41
        replace hO := hO.ext hE41
        replace hGo := hGo.ext hE41
        replace hKw := hKw.ext hE41
        replace hB9 : Blk wv38 nb9 _ _ := hB9
        refine SQ.storeA rfl rfl rfl rfl rfl Tryd.sizeOf25 rfl hB9 ⟨rfl, rfl⟩ ?_
        intro wv43 hS45 hK44
        have hsz46 := hK44.size
        replace hT := hT.kp hK44 (by intro b hb hs; omega)
        replace hC := hC.kp hK44 (by omega)
        replace hTx := hTx.kp hK44 (by intro b hb hs; omega)
        replace hM := hM.kp hK44 (by omega)
        replace hMp := hMp.kp hK44 (by omega)
        replace hL := hL.kp hK44 (by omega)
        replace hO := hO.kp hK44 (by rintro _ rfl hq; have := hlt3 _ hq; omega)
        replace hGo := hGo.kp hK44 (by omega)
        replace hB9 : Blk wv43 _ _ _ := hS45
        clear hS45
        replace hKw := hKw.both (hK44.mono (by intro b _ hb; subst hb; omega))
        refine SQ.nil ?_
        refine C.code ?_
        refine W.region ?_
        refine SQ.op rfl rfl rfl (r_load rfl rfl Tryd.isAgg60 (by first | exact hB9.cell rfl | exact hGo.cell rfl | exact hL.cell rfl | exact hM.cell rfl | exact hC.cell rfl | assumption)) ?_
        refine SQ.op rfl rfl rfl (r_loadAgg rfl rfl Tryd.isAgg25 Tryd.sizeOf25 rfl (by first | exact hB9.cells | exact hGo.cells | exact hL.cells | exact hM.cells | exact hC | assumption)) ?_
        refine SQ.op rfl rfl rfl (r_move rfl rfl) ?_
        have hsz8 := hKw.size
        have hch := Ex.child_sz hx
        refine SQ.call rfl rfl rfl (rc_value (fs := []) (cs := [_, _, _]) rfl rfl rfl Tryd.call21) (ih x.t i hx x.A x.c N mc lc gc mb base v3 (gathers (t.args.take i) (if t.op = 19 then a + 1 else a) (if t.op = 3 ∧ ¬ (⟨t.nm, a⟩ : Rf) ∈ L then L ++ [⟨t.nm, a⟩] else L)) (if t.op = 19 then a + 1 else a) _ hTx ⟨hM, hMp, hL, hO, hGo, h1, h2, h3, h4, h5, by omega⟩ (by split <;> omega) (by split <;> omega) (by rw [← gathers_step t.args i _ _ _ hx]; rw [gather_def] at hlen; exact Nat.le_trans (gathers_take _ _ _ _) hlen)) ?_
        rintro _ wg ⟨rfl, ⟨v4, hGs4⟩, hKg⟩
        refine ⟨_, rfl, ?_⟩
        replace hT := hT.kp hKg (by intro b hb hs; omega)
        replace hKw := hKw.both hKg
        refine SQ.nil ?_
        refine C.code ?_
        refine W.region ?_
        refine SQ.op rfl rfl rfl (r_add rfl rfl rfl (w64 (by omega))) ?_
        refine SQ.op rfl rfl rfl (r_move rfl rfl) ?_
        refine SQ.nil ?_
        refine C.round (i + 1, v4) ⟨rfl, rfl, rfl, rfl, rfl, rfl, rfl, trivial⟩ ⟨hT, ?_, hKw, by dsimp only; omega⟩ (by dsimp only; omega)
        rw [gathers_step t.args i _ _ _ hx]; exact hGs4
      · obtain rfl : i = t.args.length := by omega
        rw [List.take_length] at hGs
        refine W.seq ?_
        refine W.region ?_
        refine SQ.opD false rfl rfl rfl (r_lss rfl rfl rfl) (by simp) ?_
        refine SQ.nil ?_
        refine C.code ?_
        refine W.seq ?_
        refine W.cond_f rfl ?_
        refine W.exit rfl ?_
        refine C.ret0 Tryd.results21 ?_
        rw [gather_def]
        exact ⟨rfl, ⟨_, hGs⟩, hKw⟩

theorem go_all : ∀ n t, SizeOf.sizeOf t ≤ n → GoAt t
  | 0, t, h => by cases t; simp at h
  | n + 1, t, h => fun A c N mc lc gc mb base v L a w hT hGs ha has hlen => go_step t (fun x i hx => go_all n x (by have := Ex.child_lt hx; omega)) A c N mc lc gc mb base v L a w hT hGs ha has hlen

/-- belfry.exprs.Refs -/
theorem Refs_spec (t : Ex) (A : Option Addr) (c N : Nat) (w : World) (hT : Tr w (fun b => b < N) t A c) (hN : N = w.heap.size) (hst : t.sz ≤ 1000000000) :
    Calls Tryd.prog 9 #[.agg (t.cs A c).toArray] w fun e w' => ∃ v base, e = .returned v ∧ w.heap.size ≤ base ∧ Ow w' base 32 2 v (gather t 0 []).length ((gather t 0 []).flatMap Rf.enc) ∧ Ext w w' := by
  refine calls_of Tryd.func9 rfl Tryd.ntmps9 rfl ?_
  have hEw := Kp.refl (fun _ => False) w
  refine W.seq ?_
  refine W.region ?_
  have hsz5 := hEw.size
  refine SQ.new (v := (fun nb => .pointer (some ⟨nb, 0, none⟩))) rfl rfl rfl (r_box rfl rfl) ?_
  intro nb1 wv1 hge2 hlt3 hB1 hE4
  replace hT := hT.ext hE4
  replace hEw := hEw.ext hE4
  replace hB1 : Blk wv1 nb1 _ _ := hB1
  have hsz10 := hEw.size
  refine SQ.new (v := (fun nb => .pointer (some ⟨nb, 0, none⟩))) rfl rfl rfl (r_alloc rfl Tryd.zeroValue28) ?_
  intro nb2 wv6 hge7 hlt8 hB2 hE9
  have hlt_hB1_hB2 := Nat.lt_of_lt_of_le hB1.lt hge7
  replace hT := hT.ext hE9
  replace hB1 := hB1.ext hE9
  replace hEw := hEw.ext hE9
  replace hB2 : Blk wv6 nb2 _ _ := hB2
  refine SQ.nil ?_
  refine C.code ?_
  refine W.seq ?_
  refine W.region ?_
  have hsz15 := hEw.size
  refine SQ.new (v := (fun nb => .map (some nb))) rfl rfl rfl (r_makeMap rfl) ?_
  intro nb5 wv11 hge12 hlt13 hB5 hE14
  have hlt_hB1_hB5 := Nat.lt_of_lt_of_le hB1.lt hge12
  have hlt_hB2_hB5 := Nat.lt_of_lt_of_le hB2.lt hge12
  replace hT := hT.ext hE14
  replace hB1 := hB1.ext hE14
  replace hB2 := hB2.ext hE14
  replace hEw := hEw.ext hE14
  replace hB5 : MpS wv11 nb5 [] := MpS.of hB5
  have hsz20 := hEw.size
  refine SQ.new (v := (fun nb => .pointer (some ⟨nb, 0, none⟩))) rfl rfl rfl (r_alloc rfl Tryd.zeroValue59) ?_
  intro nb3 wv16 hge17 hlt18 hB3 hE19
  have hlt_hB1_hB3 := Nat.lt_of_lt_of_le hB1.lt hge17
  have hlt_hB2_hB3 := Nat.lt_of_lt_of_le hB2.lt hge17
  have hlt_hB5_hB3 := Nat.lt_of_lt_of_le hB5.lt hge17
  replace hT := hT.ext hE19
  replace hB1 := hB1.ext hE19
  replace hB2 := hB2.ext hE19
  replace hB5 := hB5.ext hE19
  replace hEw := hEw.ext hE19
  replace hB3 : Blk wv16 nb3 _ _ := hB3
  refine SQ.store rfl rfl rfl rfl rfl Tryd.sizeOf59 rfl hB3 rfl ?_
  intro wv21 hS23 hK22
  have hsz24 := hK22.size
  replace hT := hT.kp hK22 (by intro b hb hs; omega)
  replace hB1 := hB1.kp hK22 (by omega)
  replace hB2 := hB2.kp hK22 (by omega)
  replace hB5 := hB5.kp hK22 (by omega)
  replace hB3 : Blk wv21 _ _ _ := hS23
  clear hS23
  replace hEw := hEw.new hK22 (by intro b hb; subst hb; omega)
  refine SQ.nil ?_
  refine C.code ?_
  refine W.seq ?_
  refine W.region ?_
  have hsz29 := hEw.size
  refine SQ.new (v := (fun nb => .pointer (some ⟨nb, 0, none⟩))) rfl rfl rfl (r_alloc rfl Tryd.zeroValue60) ?_
  intro nb4 wv25 hge26 hlt27 hB4 hE28
  have hlt_hB1_hB4 := Nat.lt_of_lt_of_le hB1.lt hge26
  have hlt_hB2_hB4 := Nat.lt_of_lt_of_le hB2.lt hge26
  have hlt_hB5_hB4 := Nat.lt_of_lt_of_le hB5.lt hge26
  have hlt_hB3_hB4 := Nat.lt_of_lt_of_le hB3.lt hge26
  replace hT := hT.ext hE28
  replace hB1 := hB1.ext hE28
  replace hB2 := hB2.ext hE28
  replace hB5 := hB5.ext hE28
  replace hB3 := hB3.ext hE28
  replace hEw := hEw.ext hE28
  replace hB4 : Blk wv25 nb4 _ _ := hB4
  refine SQ.nil ?_
  refine C.code ?_
  refine W.seq ?_
  refine W.region ?_
  refine SQ.op rfl rfl rfl (r_makeFunc rfl rfl rfl) ?_
  refine SQ.store rfl rfl rfl rfl rfl Tryd.sizeOf60 rfl hB4 rfl ?_
  intro wv30 hS32 hK31
  have hsz33 := hK31.size
  replace hT := hT.kp hK31 (by intro b hb hs; omega)
  replace hB1 := hB1.kp hK31 (by omega)
  replace hB2 := hB2.kp hK31 (by omega)
  replace hB5 := hB5.kp hK31 (by omega)
  replace hB3 := hB3.kp hK31 (by omega)
  replace hB4 : Blk wv30 _ _ _ := hS32
  clear hS32
  replace hEw := hEw.new hK31 (by intro b hb; subst hb; omega)
  refine SQ.nil ?_
  refine C.code ?_
  refine W.seq ?_
  refine W.region ?_
  refine SQ.op rfl rfl rfl (r_load rfl rfl Tryd.isAgg60 (by first | exact hB4.cell rfl | exact hB3.cell rfl | exact hB2.cell rfl | exact hB1.cell rfl | assumption)) ?_
  refine SQ.op rfl rfl rfl (r_loadAgg rfl rfl Tryd.isAgg25 Tryd.sizeOf25 rfl (by first | exact hB4.cells | exact hB3.cells | exact hB2.cells | exact hB1.cells | assumption)) ?_
  have hsz8 := hEw.size
  have hl4 := hB4.lt
  refine SQ.call rfl rfl rfl (rc_value (fs := []) (cs := [_, _, _]) rfl rfl rfl Tryd.call21) (go_all _ t (Nat.le_refl _) A c N nb3 nb2 nb4 nb5 _ (.slice none 0 0) [] 0 _ hT ⟨hB3, hB5, hB2, Ow.nil _ _ _ _, hB4, by omega, by omega, by omega, by omega, hl4, Nat.le_refl _⟩ (by decide) (by omega) (by have := gather_sz t 0 []; simp at this; omega)) ?_
  rintro _ wg ⟨rfl, ⟨v4, hGs⟩, hKg⟩
  obtain ⟨hB3', hMp, hB2', hO, hB4', _, _, _, _, _, _⟩ := hGs
  replace hB2 := hB2'
  obtain ⟨A4, c4, rfl⟩ := hO.slice
  refine ⟨_, rfl, ?_⟩
  replace hEw := hEw.new hKg (by intro b hb; omega)
  refine SQ.nil ?_
  refine C.code ?_
  refine W.seq ?_
  refine W.region ?_
  refine SQ.op rfl rfl rfl (r_load rfl rfl Tryd.isAgg28 (by first | exact hB2.cell rfl | assumption)) ?_
  refine SQ.store rfl rfl rfl rfl rfl Tryd.sizeOf28 rfl hB2 rfl ?_
  intro wv34 hS36 hK35
  have hsz37 := hK35.size
  replace hO := hO.kp hK35 (by first | (rintro _ rfl; exact hO.ne hB2 rfl) | (rintro _ rfl hq; have := hO.lt _ hq; omega))
  replace hB2 : Blk wv34 _ _ _ := hS36
  clear hS36
  replace hEw := hEw.new hK35 (by intro b hb; subst hb; omega)
  refine SQ.nil ?_
  refine C.code ?_
  refine W.ret ?_
  refine C.retL (vs := [_]) Tryd.results9 ⟨⟨_, rfl, ld_one Tryd.isAgg28 hB2 rfl⟩, trivial⟩ ?_
  exact ⟨_, _, rfl, by omega, hO, hEw⟩


end Go.Proofs.YtclokcmgigdjlaaDoor
