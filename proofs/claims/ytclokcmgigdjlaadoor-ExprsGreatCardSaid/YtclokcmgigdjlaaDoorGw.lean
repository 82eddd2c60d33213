/- Printed by this session's own program out of the translation, and by hand. -/
import Derived.Test.YtclokcmgigdjlaaDoorGp
import Derived.Test.YtclokcmgigdjlaaDoorD
set_option linter.unusedVariables false
set_option linter.unusedSimpArgs false
set_option maxRecDepth 4000
namespace Go.Proofs.YtclokcmgigdjlaaDoor
open Go.FL Go.RowKit Go.Proofs

/-! ### Rows of trees -/
def leafNd : Nd := ⟨leafE, none, 0⟩
def FlA (w : World) (N : Nat) (A : Option Addr) (xs : List Nd) : Prop := 0 < xs.length → ∃ b, A = some ⟨b, 0, none⟩ ∧ b < N ∧ Cl w b 0 (xs.flatMap Nd.cs)
theorem FlA.ext {w w' : World} {N : Nat} {A : Option Addr} {xs : List Nd} (h : FlA w N A xs) (hE : Ext w w') : FlA w' N A xs := fun h0 => let ⟨b, h1, h2, h3⟩ := h h0; ⟨b, h1, h2, h3.ext hE⟩
theorem FlA.kp {w w' : World} {N : Nat} {A : Option Addr} {xs : List Nd} {X : Nat → Prop} (h : FlA w N A xs) (hK : Kp X w w') (hx : ∀ b, X b → ¬ b < N) : FlA w' N A xs := fun h0 => let ⟨b, h1, h2, h3⟩ := h h0; ⟨b, h1, h2, h3.kp hK (fun hX => hx b hX h2)⟩
theorem FlA.row {w : World} {base : Nat} {e : TypeId} {n : Nat} {v : Value} {xs : List Nd} (hO : Ow w base e 4 v n (xs.flatMap Nd.cs)) (hn : n = xs.length) : ∃ A c, v = .slice A xs.length c ∧ FlA w w.heap.size A xs := by
  subst hn
  obtain ⟨A, c, rfl⟩ := hO.slice
  refine ⟨A, c, rfl, fun h0 => ?_⟩
  obtain ⟨g, cap, hv, hb, _, hC⟩ := hO.cl h0
  have hlt := (hO.lt g (by rw [hv]; rfl)).2
  simp only [Value.slice.injEq] at hv
  exact ⟨g, hv.1, hlt, hC⟩
theorem Ow.zero {w : World} {base nb z : Nat} {e : TypeId} (h : Blk w nb [] e) (hb : base ≤ nb) : Ow w base e z (.slice (some ⟨nb, 0, none⟩) 0 0) 0 [] := by
  have h' : w.heap[nb]? = some (.cells #[] e (0, 0)) := h
  exact ⟨by simp, .inr ⟨nb, 0, #[], rfl, hb, h', Nat.le_refl _, by decide, by simp, by simp⟩⟩
theorem Check_is (b : Bool) (t : Ex) (A : Option Addr) (c N : Nat) (w : World) (hT : Tr w (fun b => b < N) t A c) (hN : N ≤ w.heap.size) (h : checkB t = b) : Calls Tryd.prog 15 #[.agg (t.cs A c).toArray] w fun e w' => e = .returned (.bool b) ∧ Ext w w' := by
  have := Check_spec t A c N w hT hN
  rw [h] at this
  exact this
theorem toksN_small : ∀ (m a : Nat) (t : Tok), t ∈ toksN m a → t.t.size ≤ 1000000000000
  | 0, a, t, h => by simp [toksN] at h; subst h; exact (show (⟨#[97]⟩ : ByteArray).size ≤ 1000000000000 from by decide)
  | m + 1, a, t, h => by
    rw [toksN] at h
    rcases List.mem_cons.1 h with rfl | h
    · exact (show (⟨#[110, 111, 116]⟩ : ByteArray).size ≤ 1000000000000 from by decide)
    · exact toksN_small m _ t h
theorem pairUp_pos {l : List Ex} (h : 0 < l.length) : 0 < (pairUp l).length := by rw [pairUp_len]; omega
theorem iterP_pos : ∀ (n : Nat) (l : List Ex), 0 < l.length → 0 < (iterP n l).length
  | 0, l, h => h
  | n + 1, l, h => by
    rw [iterP]; split
    · exact h
    · exact iterP_pos n _ (pairUp_pos h)
theorem gr_deep {k : Nat} (h : k < 300) : checkB (notN (k - 1)) = decide (k ≤ 32) := by
  have := gr_at h; unfold grB at this; rw [Bool.and_eq_true] at this; exact eq_of_beq this.1
theorem gr_flat {k : Nat} (h : k < 300) (h0 : k ≠ 0) : checkB ((finL k).getD 0 exNone) = decide (2 * k - 1 ≤ 200) := by
  have := gr_at h; unfold grB at this; rw [Bool.and_eq_true, Bool.or_eq_true] at this
  rcases this.2 with e | e
  · exact absurd (by simpa using e) h0
  · exact eq_of_beq e

/- belfry.belfrylaw05.ExprsGreat -/
set_option maxHeartbeats 2000000 in
theorem great_walk (n : Nat) (hn : n ≤ 65535) (w : World) (hG : Gl w) :
    Calls Tryd.prog 4 #[.int .u16 (n : Int)] w fun e w' => e = .returned (.bool true) ∧ Ext w w' := by
  obtain ⟨k, hkd, hk3⟩ : ∃ k, k = n % 300 ∧ k < 300 := ⟨_, rfl, Nat.mod_lt _ (by decide)⟩
  refine calls_of Tryd.func4 rfl Tryd.ntmps4 rfl ?_
  have hEw := Kp.refl (fun _ => False) w
  refine W.seq ?_
  refine W.region ?_
  refine SQ.op rfl rfl rfl (r_assign rfl rfl) ?_
  refine SQ.nil ?_
  refine C.code ?_
  refine W.seq ?_
  refine W.region ?_
  refine SQ.op rfl rfl rfl (r_move rfl rfl) ?_
  refine SQ.op rfl rfl rfl (r_rem rfl rfl rfl (by decide) (show ((n : Nat) : Int).tmod 300 = ((k : Nat) : Int) from by rw [hkd]; rfl)) ?_
  refine SQ.op rfl rfl rfl (r_convInt rfl rfl Tryd.underlying35 Tryd.underlying3 (w64 (by omega))) ?_
  refine SQ.op rfl rfl rfl (r_assign rfl rfl) ?_
  refine SQ.nil ?_
  refine C.code ?_
  refine W.seq ?_
  refine W.region ?_
  have hsz1 := hEw.size
  refine SQ.call rfl rfl rfl (rc_func rfl rfl Tryd.call12) (name_spec _ _) ?_
  rintro _ wv2 ⟨rfl, hE3⟩
  refine ⟨_, rfl, ?_⟩
  replace hG := hG.ext hE3
  replace hEw := hEw.ext hE3
  have hsz8 := hEw.size
  refine SQ.new (v := (fun nb => .pointer (some ⟨nb, 0, none⟩))) rfl rfl rfl (r_alloc rfl Tryd.zeroValue25) ?_
  intro nb4 wv4 hge5 hlt6 hB4 hE7
  have hge_hG_hB4 := Nat.le_trans hG.size hge5
  replace hG := hG.ext hE7
  replace hEw := hEw.ext hE7
  replace hB4 : Blk wv4 nb4 _ _ := hB4
  refine SQ.storeA rfl rfl rfl rfl rfl Tryd.sizeOf25 rfl hB4 ⟨rfl, rfl⟩ ?_
  intro wv9 hS11 hK10
  have hsz12 := hK10.size
  replace hG := hG.kp hK10 (by intro b hb hs; omega)
  replace hB4 : Blk wv9 _ _ _ := hS11
  clear hS11
  replace hEw := hEw.new hK10 (by intro b hb; subst hb; omega)
  refine SQ.nil ?_
  refine C.code ?_
  refine W.seq ?_
  refine W.region ?_
  have hsz13 := hEw.size
  refine SQ.call rfl rfl rfl (rc_func rfl rfl Tryd.call12) (name_spec _ _) ?_
  rintro _ wv14 ⟨rfl, hE15⟩
  refine ⟨_, rfl, ?_⟩
  replace hG := hG.ext hE15
  replace hB4 := hB4.ext hE15
  replace hEw := hEw.ext hE15
  have hsz20 := hEw.size
  refine SQ.new (v := (fun nb => .pointer (some ⟨nb, 0, none⟩))) rfl rfl rfl (r_alloc rfl Tryd.zeroValue25) ?_
  intro nb5 wv16 hge17 hlt18 hB5 hE19
  have hge_hG_hB5 := Nat.le_trans hG.size hge17
  have hlt_hB4_hB5 := Nat.lt_of_lt_of_le hB4.lt hge17
  replace hG := hG.ext hE19
  replace hB4 := hB4.ext hE19
  replace hEw := hEw.ext hE19
  replace hB5 : Blk wv16 nb5 _ _ := hB5
  refine SQ.storeA rfl rfl rfl rfl rfl Tryd.sizeOf25 rfl hB5 ⟨rfl, rfl⟩ ?_
  intro wv21 hS23 hK22
  have hsz24 := hK22.size
  replace hG := hG.kp hK22 (by intro b hb hs; omega)
  replace hB4 := hB4.kp hK22 (by omega)
  replace hB5 : Blk wv21 _ _ _ := hS23
  clear hS23
  replace hEw := hEw.new hK22 (by intro b hb; subst hb; omega)
  refine SQ.nil ?_
  refine C.code ?_
  refine W.seq ?_
  refine W.region ?_
  refine SQ.op rfl rfl rfl (r_assign rfl rfl) ?_
  refine SQ.nil ?_
  refine C.code ?_
  refine W.seq ?_
  refine W.seq ?_
  refine W.region ?_
  refine SQ.op rfl rfl rfl (r_assign rfl rfl) ?_
  refine SQ.nil ?_
  refine C.code ?_
  refine W.block ?_
  refine W.loop (α := Nat × Option Addr × Nat × Nat) (fun g => [(3, .int .i64 (k : Int)), (4, .pointer (some ⟨nb4, 0, none⟩)), (5, .pointer (some ⟨nb5, 0, none⟩)), (6, .string (notT (g.1 - 1))), (7, .int .i64 (g.1 : Int))]) (fun g w1 => Blk w1 nb4 ((notN (g.1 - 1)).cs g.2.1 g.2.2.1) 25 ∧ Tr w1 (fun b => b < g.2.2.2 ∧ b ≠ nb4) (notN (g.1 - 1)) g.2.1 g.2.2.1 ∧ Sz g.2.2.2 w1 ∧ Blk w1 nb5 (leafE.cs none 0) 25 ∧ Gl w1 ∧ Ext w w1 ∧ 1 ≤ g.1 ∧ (g.1 ≤ k ∨ g.1 = 1)) (fun g => k - g.1) (1, none, 0, 0) ⟨rfl, rfl, rfl, rfl, rfl, trivial⟩ ⟨hB4, .nil (by decide), ⟨Nat.zero_le _⟩, hB5, hG, hEw, by simp, by simp⟩ ?_
  rintro ⟨i, Ad, cd, Nz⟩ wl0 ⟨hB4, hTd, hNd, hB5, hG, hEw, hi1, hik⟩
  dsimp only at hB4 hTd hNd hi1 hik ⊢
  by_cases hi6 : i < k
  · obtain ⟨j, rfl⟩ : ∃ j, i = j + 1 := ⟨i - 1, by omega⟩
    refine W.seq ?_
    refine W.seq ?_
    refine W.region ?_
    refine SQ.op rfl rfl rfl (r_move rfl rfl) ?_
    refine SQ.op rfl rfl rfl (r_move rfl rfl) ?_
    refine SQ.opD true rfl rfl rfl (r_lss rfl rfl rfl) (decide_eq_true (by omega)) ?_
    refine SQ.nil ?_
    refine C.code ?_
    refine W.cond_t rfl ?_
    refine W.skip ?_
    refine C.code ?_
    refine W.seq ?_
    refine W.block ?_
    refine W.seq ?_
    refine W.region ?_
    refine SQ.op rfl rfl rfl (r_loadAgg rfl rfl Tryd.isAgg25 Tryd.sizeOf25 rfl (by first | exact hB5.cells | exact hB4.cells | assumption)) ?_
    have hsz29 := hEw.size
    refine SQ.new (v := (fun nb => .slice (some ⟨nb, 0, none⟩) 1 1)) rfl rfl rfl (r_buildSlice rfl rfl Tryd.underlying23 Tryd.sizeOf25 Tryd.zeroValue25 rfl rfl rfl rfl rfl) ?_
    intro nb29 wv25 hge26 hlt27 hB29 hE28
    have hlt_hB4_hB29 := Nat.lt_of_lt_of_le hB4.lt hge26
    have hge_hNd_hB29 := Nat.le_trans hNd.le hge26
    have hlt_hB5_hB29 := Nat.lt_of_lt_of_le hB5.lt hge26
    have hge_hG_hB29 := Nat.le_trans hG.size hge26
    replace hB4 := hB4.ext hE28
    replace hTd := hTd.ext hE28
    replace hNd := hNd.ext hE28
    replace hB5 := hB5.ext hE28
    replace hG := hG.ext hE28
    replace hEw := hEw.ext hE28
    replace hB29 : Blk wv25 nb29 _ _ := hB29
    have hsz30 := hEw.size
    refine SQ.call rfl rfl rfl (rc_func rfl rfl Tryd.call10) (of_spec _ _ _ _ _) ?_
    rintro _ wv31 ⟨rfl, hE32⟩
    refine ⟨_, rfl, ?_⟩
    replace hB4 := hB4.ext hE32
    replace hTd := hTd.ext hE32
    replace hNd := hNd.ext hE32
    replace hB5 := hB5.ext hE32
    replace hG := hG.ext hE32
    replace hB29 := hB29.ext hE32
    replace hEw := hEw.ext hE32
    refine SQ.storeA rfl rfl rfl rfl rfl Tryd.sizeOf25 rfl hB4 ⟨rfl, rfl⟩ ?_
    intro wv33 hS35 hK34
    have hsz36 := hK34.size
    replace hTd := hTd.kp hK34 (by intro b hb hs; omega)
    replace hNd := hNd.kp hK34 trivial
    replace hB5 := hB5.kp hK34 (by omega)
    replace hG := hG.kp hK34 (by intro b hb hs; omega)
    replace hB29 := hB29.kp hK34 (by omega)
    replace hB4 : Blk wv33 _ _ _ := hS35
    clear hS35
    replace hEw := hEw.new hK34 (by intro b hb; subst hb; omega)
    refine SQ.nil ?_
    refine C.code ?_
    refine W.region ?_
    refine SQ.op rfl rfl rfl (r_move rfl rfl) ?_
    refine SQ.op rfl rfl rfl (r_addStr rfl rfl rfl (by rw [notT_size]; show _ + 4 ≤ _; omega)) ?_
    refine SQ.op rfl rfl rfl (r_assign rfl rfl) ?_
    refine SQ.nil ?_
    refine C.code ?_
    refine W.region ?_
    refine SQ.op rfl rfl rfl (r_move rfl rfl) ?_
    refine SQ.op rfl rfl rfl (r_add rfl rfl rfl (w64 (by omega))) ?_
    refine SQ.op rfl rfl rfl (r_assign rfl rfl) ?_
    refine SQ.nil ?_
    refine C.round (j + 1 + 1, some ⟨nb29, 0, none⟩, 1, (World.heap wv33).size) ⟨rfl, rfl, rfl, rfl, rfl, trivial⟩ ⟨hB4, Tr.mk1 (x := notN j) hB29 ⟨hB29.lt, by omega⟩ (hTd.mono (by intro b hb; exact ⟨Nat.lt_of_lt_of_le hb.1 hNd.le, hb.2⟩)), Sz.here _, hB5, hG, hEw, by simp, by dsimp only; omega⟩ (by dsimp only; omega)
  · refine W.seq ?_
    refine W.seq ?_
    refine W.region ?_
    refine SQ.op rfl rfl rfl (r_move rfl rfl) ?_
    refine SQ.op rfl rfl rfl (r_move rfl rfl) ?_
    refine SQ.opD false rfl rfl rfl (r_lss rfl rfl rfl) (decide_eq_false (by omega)) ?_
    refine SQ.nil ?_
    refine C.code ?_
    refine W.cond_f rfl ?_
    refine W.exit rfl ?_
    refine C.code ?_
    refine W.seq ?_
    refine W.region ?_
    have hsz41 := hEw.size
    refine SQ.new (v := (fun nb => .slice (some ⟨nb, 0, none⟩) 0 0)) rfl rfl rfl (r_buildSlice0 rfl Tryd.underlying23 Tryd.sizeOf25) ?_
    intro nb33 wv37 hge38 hlt39 hB33 hE40
    have hlt_hB4_hB33 := Nat.lt_of_lt_of_le hB4.lt hge38
    have hge_hNd_hB33 := Nat.le_trans hNd.le hge38
    have hlt_hB5_hB33 := Nat.lt_of_lt_of_le hB5.lt hge38
    have hge_hG_hB33 := Nat.le_trans hG.size hge38
    replace hB4 := hB4.ext hE40
    replace hTd := hTd.ext hE40
    replace hNd := hNd.ext hE40
    replace hB5 := hB5.ext hE40
    replace hG := hG.ext hE40
    replace hEw := hEw.ext hE40
    replace hB33 : Blk wv37 nb33 _ _ := hB33
    refine SQ.op rfl rfl rfl (r_assign rfl rfl) ?_
    refine SQ.nil ?_
    refine C.code ?_
    refine W.seq ?_
    refine W.seq ?_
    refine W.region ?_
    refine SQ.op rfl rfl rfl (r_assign rfl rfl) ?_
    refine SQ.nil ?_
    refine C.code ?_
    refine W.block ?_
    have hik2 : i - 1 = k - 1 := by omega
    rw [hik2] at hB4 hTd
    have hNz : Sz nb33 _ := ⟨Nat.le_of_lt hB33.lt⟩
    refine W.loop (α := Nat × Value) (fun g => [(3, .int .i64 (k : Int)), (4, .pointer (some ⟨nb4, 0, none⟩)), (5, .pointer (some ⟨nb5, 0, none⟩)), (6, .string (notT (k - 1))), (8, g.2), (9, .int .i64 (g.1 : Int))]) (fun g w1 => Ow w1 nb33 25 4 g.2 g.1 ((List.replicate g.1 leafNd).flatMap Nd.cs) ∧ Sz nb33 w1 ∧ Blk w1 nb5 (leafE.cs none 0) 25 ∧ Blk w1 nb4 ((notN (k - 1)).cs Ad cd) 25 ∧ Tr w1 (fun b => b < Nz ∧ b ≠ nb4) (notN (k - 1)) Ad cd ∧ Sz Nz w1 ∧ Gl w1 ∧ Ext w w1 ∧ g.1 ≤ k) (fun g => k - g.1) (0, .slice (some ⟨nb33, 0, none⟩) 0 0) ⟨rfl, rfl, rfl, by rw [← hik2]; rfl, rfl, rfl, trivial⟩ ⟨Ow.zero hB33 (Nat.le_refl _), hNz, hB5, hB4, hTd, hNd, hG, hEw, by simp⟩ ?_
    rintro ⟨q, v⟩ wl1 ⟨hO, hNz, hB5, hB4, hTd, hNd, hG, hEw, hqk⟩
    dsimp only at hO hqk ⊢
    have hlO41 := hO.lt
    by_cases hi12 : q < k
    · refine W.seq ?_
      refine W.seq ?_
      refine W.region ?_
      refine SQ.op rfl rfl rfl (r_move rfl rfl) ?_
      refine SQ.op rfl rfl rfl (r_move rfl rfl) ?_
      refine SQ.opD true rfl rfl rfl (r_lss rfl rfl rfl) (decide_eq_true (by omega)) ?_
      refine SQ.nil ?_
      refine C.code ?_
      refine W.cond_t rfl ?_
      refine W.skip ?_
      refine C.code ?_
      refine W.seq ?_
      refine W.block ?_
      refine W.region ?_
      refine SQ.op rfl rfl rfl (r_move rfl rfl) ?_
      refine SQ.op rfl rfl rfl (r_loadAgg rfl rfl Tryd.isAgg25 Tryd.sizeOf25 rfl (by first | exact hB4.cells | exact hB5.cells | assumption)) ?_
      have hsz46 := hEw.size
      refine SQ.new (v := (fun nb => .slice (some ⟨nb, 0, none⟩) 1 1)) rfl rfl rfl (r_buildSlice rfl rfl Tryd.underlying23 Tryd.sizeOf25 Tryd.zeroValue25 rfl rfl rfl rfl rfl) ?_
      intro nb41 wv42 hge43 hlt44 hB41 hE45
      have hge_hNz_hB41 := Nat.le_trans hNz.le hge43
      have hlt_hB5_hB41 := Nat.lt_of_lt_of_le hB5.lt hge43
      have hlt_hB4_hB41 := Nat.lt_of_lt_of_le hB4.lt hge43
      have hge_hNd_hB41 := Nat.le_trans hNd.le hge43
      have hge_hG_hB41 := Nat.le_trans hG.size hge43
      replace hO := hO.ext hE45
      replace hNz := hNz.ext hE45
      replace hB5 := hB5.ext hE45
      replace hB4 := hB4.ext hE45
      replace hTd := hTd.ext hE45
      replace hNd := hNd.ext hE45
      replace hG := hG.ext hE45
      replace hEw := hEw.ext hE45
      replace hB41 : Blk wv42 nb41 _ _ := hB41
      have hszb := hEw.size
      have hlO := hO.lt
      have hlb := hB41.lt
      refine SQ.appendC (base := nb33) (z := 4) (bytes := 56) rfl rfl rfl rfl Tryd.underlying23 Tryd.type25 rfl rfl rfl rfl rfl rfl rfl hO hB41.cells rfl (by intro u hu; exact nd_cells [leafNd] u (by simpa [Nd.cs, Ex.cs, leafNd, leafE, Ex.op, Ex.n, Ex.nm, Ex.args] using hu)) hNz.le (by omega) rfl ?_
      intro v2 wv47 hO2 hK48 _
      replace hNz := hNz.kp hK48 trivial
      replace hB5 := hB5.kp hK48 (fun e => by have := hlO _ e; omega)
      replace hB4 := hB4.kp hK48 (fun e => by have := hlO _ e; omega)
      replace hTd := hTd.kp hK48 (by intro b hb hs; have := hlO _ hb; omega)
      replace hNd := hNd.kp hK48 trivial
      replace hG := hG.kp hK48 (by intro b hb hs; have := hlO _ hs; omega)
      replace hB41 := hB41.kp hK48 (fun e => by have := hlO _ e; have := hlO41 _ e; omega)
      replace hEw := hEw.new hK48 (by intro b hb; have := hlO _ hb; omega)
      replace hO := hO2
      clear hO2
      refine SQ.op rfl rfl rfl (r_assign rfl rfl) ?_
      refine SQ.nil ?_
      refine C.code ?_
      refine W.region ?_
      refine SQ.op rfl rfl rfl (r_move rfl rfl) ?_
      refine SQ.op rfl rfl rfl (r_add rfl rfl rfl (w64 (by omega))) ?_
      refine SQ.op rfl rfl rfl (r_assign rfl rfl) ?_
      refine SQ.nil ?_
      refine C.round (q + 1, v2) ⟨rfl, rfl, rfl, rfl, rfl, rfl, trivial⟩ ⟨?_, hNz, hB5, hB4, hTd, hNd, hG, hEw, by dsimp only; omega⟩ (by dsimp only; omega)
      dsimp only
      rw [List.replicate_succ', List.flatMap_append]
      exact hO
    · refine W.seq ?_
      refine W.seq ?_
      refine W.region ?_
      refine SQ.op rfl rfl rfl (r_move rfl rfl) ?_
      refine SQ.op rfl rfl rfl (r_move rfl rfl) ?_
      refine SQ.opD false rfl rfl rfl (r_lss rfl rfl rfl) (decide_eq_false (by omega)) ?_
      refine SQ.nil ?_
      refine C.code ?_
      refine W.cond_f rfl ?_
      refine W.exit rfl ?_
      refine C.code ?_
      refine W.seq ?_
      refine W.block ?_
      obtain rfl : q = k := by omega
      obtain ⟨A1, c1, hv1, hF1⟩ := FlA.row (xs := List.replicate q leafNd) hO (by simp)
      subst hv1
      refine W.loop (α := Option Addr × Nat × List Nd × Nat × Nat) (fun g => [(3, .int .i64 (q : Int)), (4, .pointer (some ⟨nb4, 0, none⟩)), (6, .string (notT (q - 1))), (8, .slice g.1 g.2.2.1.length g.2.1)]) (fun g w1 => FlA w1 g.2.2.2.1 g.1 g.2.2.1 ∧ Trs w1 (fun b => b < g.2.2.2.1) g.2.2.1 ∧ Sz g.2.2.2.1 w1 ∧ Blk w1 nb4 ((notN (q - 1)).cs Ad cd) 25 ∧ Tr w1 (fun b => b < Nz ∧ b ≠ nb4) (notN (q - 1)) Ad cd ∧ Sz Nz w1 ∧ Gl w1 ∧ Ext w w1 ∧ iterP g.2.2.2.2 (g.2.2.1.map Nd.t) = finL q ∧ g.2.2.1.length ≤ g.2.2.2.2 ∧ g.2.2.1.length ≤ 300) (fun g => g.2.2.1.length) (A1, c1, List.replicate q leafNd, (World.heap wl1).size, 300) ⟨rfl, rfl, rfl, rfl, trivial⟩ ⟨hF1, (fun x hx => by rw [List.eq_of_mem_replicate hx]; exact .nil (by decide)), Sz.here _, hB4, hTd, hNd, hG, hEw, by simp [finL, leafNd], by simp; omega, by simp; omega⟩ ?_
      rintro ⟨Af, cf, xs, Nf, f⟩ wl2 ⟨hFl, hTf, hNf, hB4, hTd, hNd, hG, hEw, hfin, hlf, hl3⟩
      dsimp only at hFl hTf hNf hfin hlf hl3 ⊢
      by_cases hi15 : 1 < xs.length
      · obtain ⟨bf, rfl, hbf, hCf⟩ := hFl (by omega)
        obtain ⟨f, rfl⟩ : ∃ f', f = f' + 1 := ⟨f - 1, by omega⟩
        obtain ⟨base2, hb2⟩ : ∃ b, b = (World.heap wl2).size := ⟨_, rfl⟩
        have hbs2 : Sz base2 wl2 := ⟨by omega⟩
        have hbN := hNf.le
        have hbd := hNd.le
        have hbg := hG.size
        have hb4l := hB4.lt
        have hbw := hEw.size
        refine W.seq ?_
        refine W.seq ?_
        refine W.region ?_
        refine SQ.op rfl rfl rfl (r_move rfl rfl) ?_
        refine SQ.op rfl rfl rfl (r_lenSlice rfl rfl Tryd.underlying23) ?_
        refine SQ.opD true rfl rfl rfl (r_gtr rfl rfl rfl) (decide_eq_true (by omega)) ?_
        refine SQ.nil ?_
        refine C.code ?_
        refine W.cond_t rfl ?_
        refine W.skip ?_
        refine C.code ?_
        refine W.block ?_
        refine W.seq ?_
        refine W.region ?_
        refine SQ.op rfl rfl rfl (r_assign rfl rfl) ?_
        refine SQ.nil ?_
        refine C.code ?_
        refine W.seq ?_
        refine W.seq ?_
        refine W.region ?_
        refine SQ.op rfl rfl rfl (r_assign rfl rfl) ?_
        refine SQ.nil ?_
        refine C.code ?_
        refine W.block ?_
        refine W.loop (α := Nat × Value × List Nd × Nat) (fun g => [(3, .int .i64 (q : Int)), (4, .pointer (some ⟨nb4, 0, none⟩)), (6, .string (notT (q - 1))), (8, .slice (some ⟨bf, 0, none⟩) xs.length cf), (10, g.2.1), (11, .int .i64 ((2 * g.1 : Nat) : Int))]) (fun g w1 => Cl w1 bf 0 (xs.flatMap Nd.cs) ∧ Trs w1 (fun b => b < Nf) xs ∧ Sz Nf w1 ∧ Blk w1 nb4 ((notN (q - 1)).cs Ad cd) 25 ∧ Tr w1 (fun b => b < Nz ∧ b ≠ nb4) (notN (q - 1)) Ad cd ∧ Sz Nz w1 ∧ Gl w1 ∧ Ext w w1 ∧ Sz base2 w1 ∧ Ow w1 base2 25 4 g.2.1 g.2.2.1.length (g.2.2.1.flatMap Nd.cs) ∧ Trs w1 (fun b => b < g.2.2.2 ∧ g.2.1.ownBlock ≠ some b) g.2.2.1 ∧ Sz g.2.2.2 w1 ∧ g.2.2.1.map Nd.t = pairUp ((xs.map Nd.t).take (2 * g.1)) ∧ 2 * g.1 ≤ xs.length) (fun g => xs.length - g.1) (0, .slice none 0 0, [], 0) ⟨rfl, rfl, rfl, rfl, rfl, rfl, trivial⟩ ⟨hCf, hTf, hNf, hB4, hTd, hNd, hG, hEw, hbs2, Ow.nil _ _ _ _, (fun x hx => by cases hx), ⟨Nat.zero_le _⟩, by simp [pairUp], by simp⟩ ?_
        rintro ⟨j, v2, ys, Ny⟩ wl3 ⟨hCf, hTf, hNf, hB4, hTd, hNd, hG, hEw, hbs2, hOy, hTy, hNy, hmap, hj⟩
        dsimp only at hOy hTy hNy hmap hj ⊢
        have hlO := hOy.lt
        have hyl : ys.length = (min (2 * j) xs.length + 1) / 2 := by have := congrArg List.length hmap; rw [pairUp_len] at this; simpa using this
        by_cases hi18 : 2 * j + 1 < xs.length
        · obtain ⟨xi, hxi⟩ : ∃ x, xs[2 * j]? = some x := ⟨_, List.getElem?_eq_getElem (by omega)⟩
          obtain ⟨yi, hyi⟩ : ∃ x, xs[2 * j + 1]? = some x := ⟨_, List.getElem?_eq_getElem (by omega)⟩
          have hCi := hCf.sub (g := Nd.cs) (z := 4) (fun _ => rfl) hxi
          have hCi1 := hCf.sub (g := Nd.cs) (z := 4) (fun _ => rfl) hyi
          refine W.seq ?_
          refine W.seq ?_
          refine W.region ?_
          refine SQ.op rfl rfl rfl (r_move rfl rfl) ?_
          refine SQ.op rfl rfl rfl (r_add rfl rfl rfl (w64 (by omega))) ?_
          refine SQ.op rfl rfl rfl (r_move rfl rfl) ?_
          refine SQ.op rfl rfl rfl (r_lenSlice rfl rfl Tryd.underlying23) ?_
          refine SQ.opD true rfl rfl rfl (r_lss rfl rfl rfl) (decide_eq_true (by omega)) ?_
          refine SQ.nil ?_
          refine C.code ?_
          refine W.cond_t rfl ?_
          refine W.skip ?_
          refine C.code ?_
          refine W.seq ?_
          refine W.block ?_
          refine W.held (fun w' => Kp (fun b => v2.ownBlock = some b) wl3 w') mixed ?_
          intro wv49 hE50 _
          have hS51 : Kp (fun b => v2.ownBlock = some b) wl3 wv49 := hE50.to _
          refine AH.take 0 rfl (by kernel_rfl) (by kernel_rfl) (by kernel_rfl) PanOk.fn rfl rfl rfl hS51 (fun w' hS => r_move rfl rfl) ?_
          refine AH.take 1 rfl (by kernel_rfl) (by kernel_rfl) (by kernel_rfl) PanOk.fn rfl rfl rfl hS51 (fun w' hS => r_move rfl rfl) ?_
          refine AH.take 2 rfl (by kernel_rfl) (by kernel_rfl) (by kernel_rfl) PanOk.fn rfl rfl rfl hS51 (fun w' hS => r_move rfl rfl) ?_
          refine AH.take 3 rfl (by kernel_rfl) (by kernel_rfl) (by kernel_rfl) PanOk.fn rfl rfl rfl hS51 (fun w' hS => r_indexAddr rfl rfl rfl Tryd.underlying23 Tryd.sizeOf25 rfl (by omega)) ?_
          refine AH.take 4 rfl (by kernel_rfl) (by kernel_rfl) (by kernel_rfl) PanOk.fn rfl rfl rfl hS51 (fun w' hS => r_loadAgg rfl rfl Tryd.isAgg25 Tryd.sizeOf25 rfl (by first | exact (fun j v hv => hS.cell (hCi1 j v hv) (fun e => by have := hlO bf e; omega)) | exact (fun j v hv => hS.cell (hCi j v hv) (fun e => by have := hlO bf e; omega)) | exact (fun j v hv => hS.cell (hB4.cells j v hv) (fun e => by have := hlO nb4 e; omega)) | exact (fun j v hv => hS.cell (hCf j v hv) (fun e => by have := hlO bf e; omega)) | assumption)) ?_
          refine AH.take 5 rfl (by kernel_rfl) (by kernel_rfl) (by kernel_rfl) PanOk.fn rfl rfl rfl hS51 (fun w' hS => r_move rfl rfl) ?_
          refine AH.take 6 rfl (by kernel_rfl) (by kernel_rfl) (by kernel_rfl) PanOk.fn rfl rfl rfl hS51 (fun w' hS => r_move rfl rfl) ?_
          refine AH.take 7 rfl (by kernel_rfl) (by kernel_rfl) (by kernel_rfl) PanOk.fn rfl rfl rfl hS51 (fun w' hS => r_add rfl rfl rfl (w64e (c := ((2 * j + 1 : Nat) : Int)) (by omega) (by omega))) ?_
          refine AH.take 8 rfl (by kernel_rfl) (by kernel_rfl) (by kernel_rfl) PanOk.fn rfl rfl rfl hS51 (fun w' hS => r_indexAddr rfl rfl rfl Tryd.underlying23 Tryd.sizeOf25 rfl (by omega)) ?_
          refine AH.take 9 rfl (by kernel_rfl) (by kernel_rfl) (by kernel_rfl) PanOk.fn rfl rfl rfl hS51 (fun w' hS => r_loadAgg rfl rfl Tryd.isAgg25 Tryd.sizeOf25 rfl (by first | exact (fun j v hv => hS.cell (hCi1 j v hv) (fun e => by have := hlO bf e; omega)) | exact (fun j v hv => hS.cell (hCi j v hv) (fun e => by have := hlO bf e; omega)) | exact (fun j v hv => hS.cell (hB4.cells j v hv) (fun e => by have := hlO nb4 e; omega)) | exact (fun j v hv => hS.cell (hCf j v hv) (fun e => by have := hlO bf e; omega)) | assumption)) ?_
          refine AH.one 10 rfl (by kernel_rfl) rfl ?_
          have hsz57 := hS51.size
          have hlt0_hNf_hB63 := hNf.le
          have hlt0_hB4_hB63 := hB4.lt
          have hlt0_hNd_hB63 := hNd.le
          have hlt0_hbs2_hB63 := hbs2.le
          have hlt0_hNy_hB63 := hNy.le
          have hsz58 := hEw.size
          refine OW.new (v := (fun nb => .slice (some ⟨nb, 0, none⟩) 2 2)) rfl rfl (r_buildSlice rfl rfl Tryd.underlying23 Tryd.sizeOf25 Tryd.zeroValue25 rfl rfl rfl rfl rfl) ?_
          intro nb63 wv52 hge55 hlt56 hB63 hE53
          replace hB63 : Blk wv52 nb63 _ _ := hB63
          have hS54 := hS51.ext hE53
          have hA59 := Ext.trans hE50 hE53
          refine OW.next hS54 ?_
          refine AH.one 11 rfl (by kernel_rfl) rfl ?_
          refine OW.call rfl rfl (rc_func rfl rfl Tryd.call10) (of_spec _ _ _ _ _) ?_
          rintro _ wv60 ⟨rfl, hE61⟩
          refine .inl ⟨_, rfl, ?_⟩
          replace hB63 := hB63.ext hE61
          have hS62 := hS54.ext hE61
          have hA63 := Ext.trans hA59 hE61
          refine OW.next hS62 ?_
          refine AH.one 12 rfl (by kernel_rfl) rfl ?_
          have hsz69 := hS62.size
          have hlt0_hNf_hB65 := hNf.le
          have hlt0_hB4_hB65 := hB4.lt
          have hlt0_hNd_hB65 := hNd.le
          have hlt0_hbs2_hB65 := hbs2.le
          have hlt0_hNy_hB65 := hNy.le
          have hsz70 := hEw.size
          refine OW.new (v := (fun nb => .slice (some ⟨nb, 0, none⟩) 1 1)) rfl rfl (r_buildSlice rfl rfl Tryd.underlying23 Tryd.sizeOf25 Tryd.zeroValue25 rfl rfl rfl rfl rfl) ?_
          intro nb65 wv64 hge67 hlt68 hB65 hE65
          have hlt_hB63_hB65 := Nat.lt_of_lt_of_le hB63.lt hge67
          replace hB63 := hB63.ext hE65
          replace hB65 : Blk wv64 nb65 _ _ := hB65
          have hS66 := hS62.ext hE65
          have hA71 := Ext.trans hA63 hE65
          refine OW.next hS66 ?_
          refine AH.one 13 rfl (by kernel_rfl) rfl ?_
          have hsA := hA71.size
          refine OW.appendC (base := base2) (z := 4) (bytes := 56) rfl rfl rfl Tryd.underlying23 Tryd.type25 rfl rfl rfl rfl rfl rfl rfl (hOy.ext hA71) hB65.cells rfl (by intro u hu; exact nd_cells [(⟨andE xi.t yi.t, some ⟨nb63, 0, none⟩, 2⟩ : Nd)] u (by simpa [Nd.cs, Ex.cs, andE, Ex.op, Ex.n, Ex.nm, Ex.args] using hu)) (by have := hbs2.le; omega) (by omega) rfl ?_
          intro v3 wv72 hO3 hE73 hat
          have hl63 := hB63.lt
          have hl65 := hB65.lt
          replace hB63 := hB63.kp hE73 (fun e => by have := hlO _ e; omega)
          replace hB65 := hB65.kp hE73 (fun e => by have := hlO _ e; omega)
          have hS74 := hS66.both hE73
          refine OW.next hS74 ?_
          refine AH.take 14 rfl (by kernel_rfl) (by kernel_rfl) (by kernel_rfl) PanOk.fn rfl rfl rfl hS74 (fun w' hS => r_assign rfl rfl) ?_
          refine AH.done (by kernel_rfl) ?_
          replace hCf := hCf.kp hS74 (fun e => by have := hlO bf e; omega)
          replace hTf := hTf.kp hS74 (by intro b hb hs; have := hlO _ hb; omega)
          replace hNf := hNf.kp hS74 trivial
          replace hB4 := hB4.kp hS74 (fun e => by have := hlO nb4 e; omega)
          replace hTd := hTd.kp hS74 (by intro b hb hs; have := hlO _ hb; omega)
          replace hNd := hNd.kp hS74 trivial
          replace hG := hG.kp hS74 (by intro b hb hs; have := hlO _ hs; omega)
          replace hbs2 := hbs2.kp hS74 trivial
          replace hTy := hTy.kp hS74 (by intro b hb hs; exact hs.2 hb)
          replace hNy := hNy.kp hS74 trivial
          replace hCi := hCi.kp hS74 (fun e => by have := hlO bf e; omega)
          replace hCi1 := hCi1.kp hS74 (fun e => by have := hlO bf e; omega)
          replace hEw := hEw.new hS74 (fun b hb => by have := hlO _ hb; omega)
          refine C.code ?_
          refine W.region ?_
          refine SQ.op rfl rfl rfl (r_move rfl rfl) ?_
          refine SQ.op rfl rfl rfl (r_add rfl rfl rfl (w64e (c := ((2 * (j + 1) : Nat) : Int)) (by omega) (by omega))) ?_
          refine SQ.op rfl rfl rfl (r_assign rfl rfl) ?_
          refine SQ.nil ?_
          have hown3 : ∀ b, v3.ownBlock = some b → base2 ≤ b := fun b hb => (hO3.lt b hb).1
          have hNl := hNf.le
          have hmap3 : (ys ++ [(⟨andE xi.t yi.t, some ⟨nb63, 0, none⟩, 2⟩ : Nd)]).map Nd.t = pairUp ((xs.map Nd.t).take (2 * (j + 1))) := by
            rw [List.map_append, hmap, pairUp_take j (xs.map Nd.t) xi.t yi.t (by rw [List.getElem?_map, hxi]; rfl) (by rw [List.getElem?_map, hyi]; rfl)]; rfl
          have hl9 := hB63.lt
          have hT3 : Trs wv72 (fun b => b < (World.heap wv72).size ∧ v3.ownBlock ≠ some b) (ys ++ [(⟨andE xi.t yi.t, some ⟨nb63, 0, none⟩, 2⟩ : Nd)]) := fun x hx => by
            rcases List.mem_append.1 hx with hx | hx
            · exact (hTy x hx).mono (by
                intro b hb
                refine ⟨by have := hNy.le; omega, fun e => ?_⟩
                rcases hat with h | h
                · rw [h] at e; exact hb.2 e
                · rw [h] at e; cases e; omega)
            · simp only [List.mem_singleton] at hx; subst hx
              have hm : ∀ b, b < Nf → b < (World.heap wv72).size ∧ v3.ownBlock ≠ some b := fun b hb => ⟨by omega, fun e => by have := hown3 b e; omega⟩
              refine Tr.mk2 (x := xi.t) (y := yi.t) hB63 ⟨hl9, fun e => ?_⟩ ((hTf _ (List.mem_of_getElem? hxi)).mono hm) ((hTf _ (List.mem_of_getElem? hyi)).mono hm)
              rcases hat with h | h
              · rw [h] at e; have := hlO _ e; omega
              · rw [h] at e; cases e; omega
          refine C.round (j + 1, v3, ys ++ [(⟨andE xi.t yi.t, some ⟨nb63, 0, none⟩, 2⟩ : Nd)], (World.heap wv72).size) ⟨rfl, rfl, rfl, rfl, rfl, rfl, trivial⟩ ⟨hCf, hTf, hNf, hB4, hTd, hNd, hG, hEw, hbs2, ?_, hT3, Sz.here _, hmap3, by dsimp only; omega⟩ (by dsimp only; omega)
          dsimp only
          rw [List.length_append, List.flatMap_append]
          exact hO3
        · refine W.seq ?_
          refine W.seq ?_
          refine W.region ?_
          refine SQ.op rfl rfl rfl (r_move rfl rfl) ?_
          refine SQ.op rfl rfl rfl (r_add rfl rfl rfl (w64 (by omega))) ?_
          refine SQ.op rfl rfl rfl (r_move rfl rfl) ?_
          refine SQ.op rfl rfl rfl (r_lenSlice rfl rfl Tryd.underlying23) ?_
          refine SQ.opD false rfl rfl rfl (r_lss rfl rfl rfl) (decide_eq_false (by omega)) ?_
          refine SQ.nil ?_
          refine C.code ?_
          refine W.cond_f rfl ?_
          refine W.exit rfl ?_
          refine C.code ?_
          refine W.seq ?_
          refine W.seq ?_
          refine W.region ?_
          refine SQ.op rfl rfl rfl (r_move rfl rfl) ?_
          refine SQ.op rfl rfl rfl (r_lenSlice rfl rfl Tryd.underlying23) ?_
          refine SQ.op rfl rfl rfl (r_rem rfl rfl rfl (by decide) (show ((xs.length : Nat) : Int).tmod 2 = ((xs.length % 2 : Nat) : Int) from rfl)) ?_
          refine SQ.op rfl rfl rfl (r_eqlInt rfl rfl rfl) ?_
          refine SQ.nil ?_
          refine C.code ?_
          refine W.cond rfl ?_ ?_
          · intro hc75
            try simp only [decide_eq_true_eq, decide_eq_false_iff_not, Bool.not_eq_true', Bool.not_eq_false', Bool.not_true, Bool.not_false, Bool.not_eq_true, Bool.not_eq_false] at hc75
            obtain ⟨xi, hxi⟩ : ∃ x, xs[2 * j]? = some x := ⟨_, List.getElem?_eq_getElem (by omega)⟩
            have hCi := hCf.sub (g := Nd.cs) (z := 4) (fun _ => rfl) hxi
            refine W.region ?_
            refine SQ.op rfl rfl rfl (r_move rfl rfl) ?_
            refine SQ.op rfl rfl rfl (r_move rfl rfl) ?_
            refine SQ.op rfl rfl rfl (r_move rfl rfl) ?_
            refine SQ.op rfl rfl rfl (r_lenSlice rfl rfl Tryd.underlying23) ?_
            refine SQ.op rfl rfl rfl (r_sub rfl rfl rfl (w64 (by omega))) ?_
            refine SQ.op rfl rfl rfl (r_indexAddr rfl rfl rfl Tryd.underlying23 Tryd.sizeOf25 (show ((xs.length : Nat) : Int) - 1 = ((2 * j : Nat) : Int) from by omega) (by omega)) ?_
            refine SQ.op rfl rfl rfl (r_loadAgg rfl rfl Tryd.isAgg25 Tryd.sizeOf25 rfl (by first | exact hCi | exact hB4.cells | exact hCf | assumption)) ?_
            have hsz80 := hEw.size
            refine SQ.new (v := (fun nb => .slice (some ⟨nb, 0, none⟩) 1 1)) rfl rfl rfl (r_buildSlice rfl rfl Tryd.underlying23 Tryd.sizeOf25 Tryd.zeroValue25 rfl rfl rfl rfl rfl) ?_
            intro nb78 wv76 hge77 hlt78 hB78 hE79
            have hge_hNf_hB78 := Nat.le_trans hNf.le hge77
            have hlt_hB4_hB78 := Nat.lt_of_lt_of_le hB4.lt hge77
            have hge_hNd_hB78 := Nat.le_trans hNd.le hge77
            have hge_hG_hB78 := Nat.le_trans hG.size hge77
            have hge_hbs2_hB78 := Nat.le_trans hbs2.le hge77
            have hge_hNy_hB78 := Nat.le_trans hNy.le hge77
            replace hCf := hCf.ext hE79
            replace hTf := hTf.ext hE79
            replace hNf := hNf.ext hE79
            replace hB4 := hB4.ext hE79
            replace hTd := hTd.ext hE79
            replace hNd := hNd.ext hE79
            replace hG := hG.ext hE79
            replace hbs2 := hbs2.ext hE79
            replace hOy := hOy.ext hE79
            replace hTy := hTy.ext hE79
            replace hNy := hNy.ext hE79
            replace hCi := hCi.ext hE79
            replace hEw := hEw.ext hE79
            replace hB78 : Blk wv76 nb78 _ _ := hB78
            have hszb := hEw.size
            have hlb := hB78.lt
            refine SQ.appendC (base := base2) (z := 4) (bytes := 56) rfl rfl rfl rfl Tryd.underlying23 Tryd.type25 rfl rfl rfl rfl rfl rfl rfl hOy hB78.cells rfl (by intro u hu; exact nd_cells [xi] u (by simpa [Nd.cs, Ex.cs] using hu)) hbs2.le (by omega) rfl ?_
            intro v4 wv81 hO4 hK82 _
            have hown4 : ∀ b, v2.ownBlock = some b → base2 ≤ b ∧ b < nb78 := fun b hb => ⟨(hlO b hb).1, by have := hlO b hb; omega⟩
            replace hCf := hCf.kp hK82 (fun e => by have := hown4 _ e; omega)
            replace hTf := hTf.kp hK82 (by intro b hb hs; have := hown4 _ hb; omega)
            replace hNf := hNf.kp hK82 trivial
            replace hB4 := hB4.kp hK82 (fun e => by have := hown4 _ e; omega)
            replace hTd := hTd.kp hK82 (by intro b hb hs; have := hown4 _ hb; omega)
            replace hNd := hNd.kp hK82 trivial
            replace hG := hG.kp hK82 (by intro b hb hs; have := hown4 _ hs; omega)
            replace hbs2 := hbs2.kp hK82 trivial
            replace hTy := hTy.kp hK82 (by intro b hb hs; exact hs.2 hb)
            replace hNy := hNy.kp hK82 trivial
            replace hCi := hCi.kp hK82 (fun e => by have := hown4 _ e; omega)
            replace hB78 := hB78.kp hK82 (fun e => by have := hown4 _ e; omega)
            replace hEw := hEw.new hK82 (by intro b hb; have := hown4 _ hb; omega)
            replace hOy := hO4
            clear hO4
            rw [show ys.length + 1 = (ys ++ [xi]).length by simp] at hOy
            refine SQ.op rfl rfl rfl (r_assign rfl rfl) ?_
            refine SQ.nil ?_
            refine C.code ?_
            refine W.region ?_
            refine SQ.op rfl rfl rfl (r_move rfl rfl) ?_
            refine SQ.op rfl rfl rfl (r_assign rfl rfl) ?_
            refine SQ.nil ?_
            have hmap2 : (ys ++ [xi]).map Nd.t = pairUp (xs.map Nd.t) := by
              rw [List.map_append, hmap, pairUp_odd j (xs.map Nd.t) xi.t (by simp; omega) (by rw [List.getElem?_map, hxi]; rfl)]; rfl
            obtain ⟨A9, c9, hv9, hF9⟩ := FlA.row (v := v4) (n := (ys ++ [xi]).length) (xs := ys ++ [xi]) (by rw [List.flatMap_append]; exact hOy) rfl
            have hT9 : Trs wv81 (fun b => b < (World.heap wv81).size) (ys ++ [xi]) := fun x hx => by
              rcases List.mem_append.1 hx with hx | hx
              · exact (hTy x hx).mono (by intro b hb; have := hNy.le; omega)
              · simp only [List.mem_singleton] at hx; subst hx; exact (hTf _ (List.mem_of_getElem? hxi)).mono (by intro b hb; have := hNf.le; omega)
            have hpl := pairUp_len (xs.map Nd.t)
            rw [← hmap2] at hpl
            simp only [List.length_map] at hpl
            subst hv9
            refine C.round (A9, c9, (ys ++ [xi]), (World.heap wv81).size, f) ⟨rfl, rfl, rfl, rfl, trivial⟩ ⟨hF9, hT9, Sz.here _, hB4, hTd, hNd, hG, hEw, ?_, by dsimp only; omega, by dsimp only; omega⟩ (by dsimp only; omega)
            dsimp only
            rw [hmap2, ← hfin, iterP_step (by simpa using hi15)]
          · intro hc75
            try simp only [decide_eq_true_eq, decide_eq_false_iff_not, Bool.not_eq_true', Bool.not_eq_false', Bool.not_true, Bool.not_false, Bool.not_eq_true, Bool.not_eq_false] at hc75
            refine W.skip ?_
            refine C.code ?_
            refine W.region ?_
            refine SQ.op rfl rfl rfl (r_move rfl rfl) ?_
            refine SQ.op rfl rfl rfl (r_assign rfl rfl) ?_
            refine SQ.nil ?_
            have hmap2 : ys.map Nd.t = pairUp (xs.map Nd.t) := by rw [hmap, List.take_of_length_le (by simp; omega)]
            obtain ⟨A9, c9, hv9, hF9⟩ := FlA.row (xs := ys) hOy rfl
            have hT9 : Trs wl3 (fun b => b < (World.heap wl3).size) ys := fun x hx => (hTy x hx).mono (by intro b hb; have := hNy.le; omega)
            have hpl := pairUp_len (xs.map Nd.t)
            rw [← hmap2] at hpl
            simp only [List.length_map] at hpl
            subst hv9
            refine C.round (A9, c9, ys, (World.heap wl3).size, f) ⟨rfl, rfl, rfl, rfl, trivial⟩ ⟨hF9, hT9, Sz.here _, hB4, hTd, hNd, hG, hEw, ?_, by dsimp only; omega, by dsimp only; omega⟩ (by dsimp only; omega)
            dsimp only
            rw [hmap2, ← hfin, iterP_step (by simpa using hi15)]
      · refine W.seq ?_
        refine W.seq ?_
        refine W.region ?_
        refine SQ.op rfl rfl rfl (r_move rfl rfl) ?_
        refine SQ.op rfl rfl rfl (r_lenSlice rfl rfl Tryd.underlying23) ?_
        refine SQ.opD false rfl rfl rfl (r_gtr rfl rfl rfl) (decide_eq_false (by omega)) ?_
        refine SQ.nil ?_
        refine C.code ?_
        refine W.cond_f rfl ?_
        refine W.exit rfl ?_
        refine C.code ?_
        refine W.seq ?_
        refine W.region ?_
        refine SQ.op rfl rfl rfl (r_move rfl rfl) ?_
        refine SQ.op rfl rfl rfl (r_addStr rfl rfl rfl (by rw [notT_size]; show _ + 1 ≤ _; omega)) ?_
        have hrd := Read_spec (notT (q - 1) ++ ⟨#[97]⟩) (by rw [ByteArray.size_append, notT_size]; show _ + 1 ≤ _; omega) wl2
        rw [great_read (q - 1) (by omega)] at hrd
        refine SQ.call rfl rfl rfl (rc_func rfl rfl Tryd.call13) hrd ?_
        rintro _ wv83 ⟨v, rfl, hOt, hEr⟩
        obtain ⟨Av, cv, rfl, hK⟩ := TkAt.of hOt
        obtain ⟨Nt, hNt, hK⟩ : ∃ N, Sz N wv83 ∧ TkAt wv83 N Av (toksN (q - 1) 0) := ⟨_, Sz.here _, hK⟩
        refine ⟨_, rfl, ?_⟩
        replace hFl := hFl.ext hEr
        replace hTf := hTf.ext hEr
        replace hNf := hNf.ext hEr
        replace hB4 := hB4.ext hEr
        replace hTd := hTd.ext hEr
        replace hNd := hNd.ext hEr
        replace hG := hG.ext hEr
        replace hEw := hEw.ext hEr
        refine SQ.op rfl rfl rfl (r_move rfl rfl) ?_
        refine SQ.op rfl rfl rfl (r_extract rfl rfl rfl) ?_
        refine SQ.op rfl rfl rfl (r_extract rfl rfl rfl) ?_
        refine SQ.op rfl rfl rfl (r_extract rfl rfl rfl) ?_
        refine SQ.op rfl rfl rfl (r_assign rfl rfl) ?_
        refine SQ.op rfl rfl rfl (r_assign rfl rfl) ?_
        refine SQ.op rfl rfl rfl (r_assign rfl rfl) ?_
        refine SQ.nil ?_
        refine C.code ?_
        refine W.seq ?_
        refine W.region ?_
        refine SQ.op rfl rfl rfl (r_move rfl rfl) ?_
        by_cases hk32 : q ≤ 32
        · have hcb : checkB (notN (q - 1)) = true := by rw [gr_deep hk3]; exact decide_eq_true hk32
          have hpr := great_parse (q - 1) (by omega)
          rw [if_pos hcb] at hpr
          have hps := Parse_spec 400 (toksN (q - 1) 0) Av cv Nt wv83 hK hNt.le (by rw [toksN_len]; omega) (toksN_small _ _) hG (by rw [great_rank (q - 1) (by omega)]; simp)
          rw [hpr] at hps
          refine SQ.call rfl rfl rfl (rc_func rfl rfl Tryd.call14) hps ?_
          rintro _ wv84 ⟨A', c', rfl, hTq, hEp⟩
          refine ⟨_, rfl, ?_⟩
          replace hFl := hFl.ext hEp
          replace hTf := hTf.ext hEp
          replace hNf := hNf.ext hEp
          replace hB4 := hB4.ext hEp
          replace hTd := hTd.ext hEp
          replace hNd := hNd.ext hEp
          replace hG := hG.ext hEp
          replace hK := hK.ext hEp
          replace hNt := hNt.ext hEp
          replace hEw := hEw.ext hEp
          refine SQ.op rfl rfl rfl (r_move rfl rfl) ?_
          refine SQ.op rfl rfl rfl (r_extract rfl rfl rfl) ?_
          refine SQ.op rfl rfl rfl (r_extract rfl rfl rfl) ?_
          refine SQ.op rfl rfl rfl (r_extract rfl rfl rfl) ?_
          have hsz89 := hEw.size
          refine SQ.new (v := (fun nb => .pointer (some ⟨nb, 0, none⟩))) rfl rfl rfl (r_alloc rfl Tryd.zeroValue25) ?_
          intro nb15 wv85 hge86 hlt87 hB15 hE88
          have hge_hNf_hB15 := Nat.le_trans hNf.le hge86
          have hlt_hB4_hB15 := Nat.lt_of_lt_of_le hB4.lt hge86
          have hge_hNd_hB15 := Nat.le_trans hNd.le hge86
          have hge_hG_hB15 := Nat.le_trans hG.size hge86
          replace hFl := hFl.ext hE88
          replace hTf := hTf.ext hE88
          replace hNf := hNf.ext hE88
          replace hB4 := hB4.ext hE88
          replace hTd := hTd.ext hE88
          replace hNd := hNd.ext hE88
          replace hG := hG.ext hE88
          replace hEw := hEw.ext hE88
          replace hB15 : Blk wv85 nb15 _ _ := hB15
          refine SQ.storeA rfl rfl rfl rfl rfl Tryd.sizeOf25 rfl hB15 ⟨rfl, rfl⟩ ?_
          intro wv90 hS92 hK91
          have hsz93 := hK91.size
          replace hFl := hFl.kp hK91 (by intro b hb hs; omega)
          replace hTf := hTf.kp hK91 (by intro b hb hs; omega)
          replace hNf := hNf.kp hK91 trivial
          replace hB4 := hB4.kp hK91 (by omega)
          replace hTd := hTd.kp hK91 (by intro b hb hs; omega)
          replace hNd := hNd.kp hK91 trivial
          replace hG := hG.kp hK91 (by intro b hb hs; omega)
          replace hB15 : Blk wv90 _ _ _ := hS92
          clear hS92
          replace hEw := hEw.new hK91 (by intro b hb; subst hb; omega)
          refine SQ.op rfl rfl rfl (r_assign rfl rfl) ?_
          refine SQ.op rfl rfl rfl (r_assign rfl rfl) ?_
          refine SQ.nil ?_
          refine C.code ?_
          refine W.seq ?_
          refine W.seq ?_
          refine W.region ?_
          refine SQ.op rfl rfl rfl (r_loadAgg rfl rfl Tryd.isAgg25 Tryd.sizeOf25 rfl (by first | exact hB15.cells | exact hB4.cells | assumption)) ?_
          have hsz94 := hEw.size
          refine SQ.call rfl rfl rfl (rc_func rfl rfl Tryd.call15) (Check_is true (notN (q - 1)) Ad cd Nz _ (hTd.mono (fun b hb => hb.1)) hNd.le hcb) ?_
          rintro _ wv95 ⟨rfl, hE96⟩
          refine ⟨_, rfl, ?_⟩
          replace hFl := hFl.ext hE96
          replace hTf := hTf.ext hE96
          replace hNf := hNf.ext hE96
          replace hB4 := hB4.ext hE96
          replace hTd := hTd.ext hE96
          replace hNd := hNd.ext hE96
          replace hG := hG.ext hE96
          replace hB15 := hB15.ext hE96
          replace hEw := hEw.ext hE96
          refine SQ.op rfl rfl rfl (r_move rfl rfl) ?_
          refine SQ.opD true rfl rfl rfl (r_leq rfl rfl rfl) (decide_eq_true (by omega)) ?_
          refine SQ.opD false rfl rfl rfl (r_neqBool rfl rfl rfl Tryd.underlying4) rfl ?_
          refine SQ.op rfl rfl rfl (r_move rfl rfl) ?_
          refine SQ.guarded rfl rfl rfl rfl rfl ?_
          refine SQ.op rfl rfl rfl (r_move rfl rfl) ?_
          refine SQ.guarded rfl rfl rfl rfl rfl ?_
          refine SQ.opD false rfl rfl rfl (r_neqInt rfl rfl rfl) rfl ?_
          refine SQ.op rfl rfl rfl (r_pick_f rfl rfl rfl) ?_
          refine SQ.op rfl rfl rfl (r_move rfl rfl) ?_
          refine SQ.guarded rfl rfl rfl rfl rfl ?_
          refine SQ.op rfl rfl rfl (r_move rfl rfl) ?_
          refine SQ.guarded rfl rfl rfl rfl rfl ?_
          refine SQ.opD true rfl rfl rfl (r_eqlInt rfl rfl rfl) rfl ?_
          refine SQ.guarded rfl rfl rfl rfl rfl ?_
          refine SQ.op rfl rfl rfl (r_move rfl rfl) ?_
          refine SQ.guarded rfl rfl rfl rfl rfl ?_
          refine SQ.opD true rfl rfl rfl (r_leq rfl rfl rfl) (decide_eq_true (by omega)) ?_
          refine SQ.guarded rfl rfl rfl rfl rfl ?_
          refine SQ.opD false rfl rfl rfl (r_neqBool rfl rfl rfl Tryd.underlying4) rfl ?_
          refine SQ.op rfl rfl rfl (r_pick_f rfl rfl rfl) ?_
          refine SQ.op rfl rfl rfl (r_move rfl rfl) ?_
          refine SQ.guarded rfl rfl rfl rfl rfl ?_
          refine SQ.op rfl rfl rfl (r_move rfl rfl) ?_
          refine SQ.guarded rfl rfl rfl rfl rfl ?_
          refine SQ.opD false rfl rfl rfl (r_neqInt rfl rfl rfl) rfl ?_
          refine SQ.guarded rfl rfl rfl rfl rfl ?_
          refine SQ.op rfl rfl rfl (r_move rfl rfl) ?_
          refine SQ.skip rfl rfl rfl rfl rfl rfl rfl ?_
          refine SQ.skip rfl rfl rfl rfl rfl rfl rfl ?_
          refine SQ.skip rfl rfl rfl rfl rfl rfl rfl ?_
          refine SQ.skipU rfl rfl rfl rfl rfl rfl ?_
          refine SQ.skipU rfl rfl rfl rfl rfl rfl ?_
          refine SQ.skip rfl rfl rfl rfl rfl rfl rfl ?_
          refine SQ.skip rfl rfl rfl rfl rfl rfl rfl ?_
          refine SQ.skipU rfl rfl rfl rfl rfl rfl ?_
          refine SQ.skipU rfl rfl rfl rfl rfl rfl ?_
          refine SQ.skipU rfl rfl rfl rfl rfl rfl ?_
          refine SQ.skip rfl rfl rfl rfl rfl rfl rfl ?_
          refine SQ.guarded rfl rfl rfl rfl rfl ?_
          refine SQ.op rfl rfl rfl (r_pick_f rfl rfl rfl) ?_
          refine SQ.op rfl rfl rfl (r_pick_f rfl rfl rfl) ?_
          refine SQ.nil ?_
          refine C.code ?_
          refine W.cond_f rfl ?_
          refine W.skip ?_
          refine C.code ?_
          refine W.seq ?_
          refine W.region ?_
          have hsz97 := hEw.size
          refine SQ.call rfl rfl rfl (rc_func rfl rfl Tryd.call7) (alive_spec _ hG) ?_
          rintro _ wv98 ⟨rfl, hE99⟩
          refine ⟨_, rfl, ?_⟩
          replace hFl := hFl.ext hE99
          replace hTf := hTf.ext hE99
          replace hNf := hNf.ext hE99
          replace hB4 := hB4.ext hE99
          replace hTd := hTd.ext hE99
          replace hNd := hNd.ext hE99
          replace hG := hG.ext hE99
          replace hB15 := hB15.ext hE99
          replace hEw := hEw.ext hE99
          refine SQ.op rfl rfl rfl (r_move rfl rfl) ?_
          refine SQ.guarded rfl rfl rfl rfl rfl ?_
          refine SQ.op rfl rfl rfl (r_move rfl rfl) ?_
          refine SQ.guarded rfl rfl rfl rfl rfl ?_
          by_cases hk0 : q = 0
          · refine SQ.opD true rfl rfl rfl (r_eqlInt rfl rfl rfl) (decide_eq_true (by omega)) ?_
            refine SQ.guarded rfl rfl rfl rfl rfl ?_
            refine SQ.op rfl rfl rfl (r_move rfl rfl) ?_
            refine SQ.skip rfl rfl rfl rfl rfl rfl rfl ?_
            refine SQ.skip rfl rfl rfl rfl rfl rfl rfl ?_
            refine SQ.skip rfl rfl rfl rfl rfl rfl rfl ?_
            refine SQ.skip rfl rfl rfl rfl rfl rfl rfl ?_
            refine SQ.skip rfl rfl rfl rfl rfl rfl rfl ?_
            refine SQ.skip rfl rfl rfl rfl rfl rfl rfl ?_
            refine SQ.skip rfl rfl rfl rfl rfl rfl rfl ?_
            refine SQ.skip rfl rfl rfl rfl rfl rfl rfl ?_
            refine SQ.skip rfl rfl rfl rfl rfl rfl rfl ?_
            refine SQ.guarded rfl rfl rfl rfl rfl ?_
            refine SQ.op rfl rfl rfl (r_pick_t rfl rfl rfl) ?_
            refine SQ.op rfl rfl rfl (r_pick_t rfl rfl rfl) ?_
            refine SQ.op rfl rfl rfl (r_assign rfl rfl) ?_
            refine SQ.nil ?_
            refine C.code ?_
            refine W.ret ?_
            refine C.ret1 Tryd.results4 rfl ?_
            exact ⟨rfl, hEw⟩
          · refine SQ.opD false rfl rfl rfl (r_eqlInt rfl rfl rfl) (decide_eq_false (by omega)) ?_
            have hxl1 : xs.map Nd.t = finL q := by rw [← hfin, iterP_done (by simpa using Nat.le_of_not_lt hi15)]
            have hxp : 0 < xs.length := by have := iterP_pos 300 (List.replicate q leafE) (by simp; omega); rw [show iterP 300 (List.replicate q leafE) = finL q from rfl, ← hxl1] at this; simpa using this
            obtain ⟨bf, rfl, hbf, hCf⟩ := hFl hxp
            obtain ⟨x0, hx0⟩ : ∃ x, xs[0]? = some x := ⟨_, List.getElem?_eq_getElem hxp⟩
            have hC0 := hCf.sub (g := Nd.cs) (z := 4) (fun _ => rfl) hx0
            have hck0 : checkB x0.t = decide (2 * q - 1 ≤ 200) := by rw [← gr_flat hk3 hk0, ← hxl1, List.getD_eq_getElem?_getD, List.getElem?_map, hx0]; rfl
            have hTx0 := hTf _ (List.mem_of_getElem? hx0)
            refine SQ.guarded rfl rfl rfl rfl rfl ?_
            refine SQ.op rfl rfl rfl (r_move rfl rfl) ?_
            refine SQ.guarded rfl rfl rfl rfl rfl ?_
            refine SQ.op rfl rfl rfl (r_move rfl rfl) ?_
            refine SQ.guarded rfl rfl rfl rfl rfl ?_
            refine SQ.op rfl rfl rfl (r_indexAddr rfl rfl rfl Tryd.underlying23 Tryd.sizeOf25 rfl (by omega) (j := 0)) ?_
            refine SQ.guarded rfl rfl rfl rfl rfl ?_
            refine SQ.op rfl rfl rfl (r_loadAgg rfl rfl Tryd.isAgg25 Tryd.sizeOf25 rfl (by first | exact hC0 | exact hB15.cells | exact hB4.cells | assumption)) ?_
            refine SQ.guarded rfl rfl rfl rfl rfl ?_
            have hsz100 := hEw.size
            refine SQ.call rfl rfl rfl (rc_func rfl rfl Tryd.call15) (Check_is (decide (2 * q - 1 ≤ 200)) x0.t x0.A x0.c Nf _ hTx0 hNf.le hck0) ?_
            rintro _ wv101 ⟨rfl, hE102⟩
            refine ⟨_, rfl, ?_⟩
            replace hTf := hTf.ext hE102
            replace hNf := hNf.ext hE102
            replace hB4 := hB4.ext hE102
            replace hTd := hTd.ext hE102
            replace hNd := hNd.ext hE102
            replace hG := hG.ext hE102
            replace hB15 := hB15.ext hE102
            replace hC0 := hC0.ext hE102
            replace hTx0 := hTx0.ext hE102
            replace hEw := hEw.ext hE102
            refine SQ.guarded rfl rfl rfl rfl rfl ?_
            refine SQ.op rfl rfl rfl (r_move rfl rfl) ?_
            refine SQ.guarded rfl rfl rfl rfl rfl ?_
            refine SQ.op rfl rfl rfl (r_mul rfl rfl rfl (w64 (by omega))) ?_
            refine SQ.guarded rfl rfl rfl rfl rfl ?_
            refine SQ.op rfl rfl rfl (r_sub rfl rfl rfl (w64 (by omega))) ?_
            refine SQ.guarded rfl rfl rfl rfl rfl ?_
            refine SQ.op rfl rfl rfl (r_leq rfl rfl rfl) ?_
            refine SQ.guarded rfl rfl rfl rfl rfl ?_
            refine SQ.opD true rfl rfl rfl (r_eqlBool rfl rfl rfl Tryd.underlying4) (by rw [beq_iff_eq, decide_eq_decide]; omega) ?_
            refine SQ.guarded rfl rfl rfl rfl rfl ?_
            refine SQ.op rfl rfl rfl (r_pick_f rfl rfl rfl) ?_
            refine SQ.op rfl rfl rfl (r_pick_t rfl rfl rfl) ?_
            refine SQ.op rfl rfl rfl (r_assign rfl rfl) ?_
            refine SQ.nil ?_
            refine C.code ?_
            refine W.ret ?_
            refine C.ret1 Tryd.results4 rfl ?_
            exact ⟨rfl, hEw⟩
        · have hcb : checkB (notN (q - 1)) = false := by rw [gr_deep hk3]; exact decide_eq_false hk32
          have hpr := great_parse (q - 1) (by omega)
          rw [if_neg (by simp [hcb])] at hpr
          have hps := Parse_spec 400 (toksN (q - 1) 0) Av cv Nt wv83 hK hNt.le (by rw [toksN_len]; omega) (toksN_small _ _) hG (by rw [great_rank (q - 1) (by omega)]; simp)
          rw [hpr] at hps
          refine SQ.call rfl rfl rfl (rc_func rfl rfl Tryd.call14) hps ?_
          rintro _ wv103 ⟨A', c', rfl, hTq, hEp⟩
          refine ⟨_, rfl, ?_⟩
          replace hFl := hFl.ext hEp
          replace hTf := hTf.ext hEp
          replace hNf := hNf.ext hEp
          replace hB4 := hB4.ext hEp
          replace hTd := hTd.ext hEp
          replace hNd := hNd.ext hEp
          replace hG := hG.ext hEp
          replace hK := hK.ext hEp
          replace hNt := hNt.ext hEp
          replace hEw := hEw.ext hEp
          refine SQ.op rfl rfl rfl (r_move rfl rfl) ?_
          refine SQ.op rfl rfl rfl (r_extract rfl rfl rfl) ?_
          refine SQ.op rfl rfl rfl (r_extract rfl rfl rfl) ?_
          refine SQ.op rfl rfl rfl (r_extract rfl rfl rfl) ?_
          have hsz108 := hEw.size
          refine SQ.new (v := (fun nb => .pointer (some ⟨nb, 0, none⟩))) rfl rfl rfl (r_alloc rfl Tryd.zeroValue25) ?_
          intro nb15 wv104 hge105 hlt106 hB15 hE107
          have hge_hNf_hB15 := Nat.le_trans hNf.le hge105
          have hlt_hB4_hB15 := Nat.lt_of_lt_of_le hB4.lt hge105
          have hge_hNd_hB15 := Nat.le_trans hNd.le hge105
          have hge_hG_hB15 := Nat.le_trans hG.size hge105
          replace hFl := hFl.ext hE107
          replace hTf := hTf.ext hE107
          replace hNf := hNf.ext hE107
          replace hB4 := hB4.ext hE107
          replace hTd := hTd.ext hE107
          replace hNd := hNd.ext hE107
          replace hG := hG.ext hE107
          replace hEw := hEw.ext hE107
          replace hB15 : Blk wv104 nb15 _ _ := hB15
          refine SQ.storeA rfl rfl rfl rfl rfl Tryd.sizeOf25 rfl hB15 ⟨rfl, rfl⟩ ?_
          intro wv109 hS111 hK110
          have hsz112 := hK110.size
          replace hFl := hFl.kp hK110 (by intro b hb hs; omega)
          replace hTf := hTf.kp hK110 (by intro b hb hs; omega)
          replace hNf := hNf.kp hK110 trivial
          replace hB4 := hB4.kp hK110 (by omega)
          replace hTd := hTd.kp hK110 (by intro b hb hs; omega)
          replace hNd := hNd.kp hK110 trivial
          replace hG := hG.kp hK110 (by intro b hb hs; omega)
          replace hB15 : Blk wv109 _ _ _ := hS111
          clear hS111
          replace hEw := hEw.new hK110 (by intro b hb; subst hb; omega)
          refine SQ.op rfl rfl rfl (r_assign rfl rfl) ?_
          refine SQ.op rfl rfl rfl (r_assign rfl rfl) ?_
          refine SQ.nil ?_
          refine C.code ?_
          refine W.seq ?_
          refine W.seq ?_
          refine W.region ?_
          refine SQ.op rfl rfl rfl (r_loadAgg rfl rfl Tryd.isAgg25 Tryd.sizeOf25 rfl (by first | exact hB15.cells | exact hB4.cells | assumption)) ?_
          have hsz113 := hEw.size
          refine SQ.call rfl rfl rfl (rc_func rfl rfl Tryd.call15) (Check_is false (notN (q - 1)) Ad cd Nz _ (hTd.mono (fun b hb => hb.1)) hNd.le hcb) ?_
          rintro _ wv114 ⟨rfl, hE115⟩
          refine ⟨_, rfl, ?_⟩
          replace hFl := hFl.ext hE115
          replace hTf := hTf.ext hE115
          replace hNf := hNf.ext hE115
          replace hB4 := hB4.ext hE115
          replace hTd := hTd.ext hE115
          replace hNd := hNd.ext hE115
          replace hG := hG.ext hE115
          replace hB15 := hB15.ext hE115
          replace hEw := hEw.ext hE115
          refine SQ.op rfl rfl rfl (r_move rfl rfl) ?_
          refine SQ.opD false rfl rfl rfl (r_leq rfl rfl rfl) (decide_eq_false (by omega)) ?_
          refine SQ.opD false rfl rfl rfl (r_neqBool rfl rfl rfl Tryd.underlying4) rfl ?_
          refine SQ.op rfl rfl rfl (r_move rfl rfl) ?_
          refine SQ.guarded rfl rfl rfl rfl rfl ?_
          refine SQ.op rfl rfl rfl (r_move rfl rfl) ?_
          refine SQ.guarded rfl rfl rfl rfl rfl ?_
          refine SQ.opD false rfl rfl rfl (r_neqInt rfl rfl rfl) rfl ?_
          refine SQ.op rfl rfl rfl (r_pick_f rfl rfl rfl) ?_
          refine SQ.op rfl rfl rfl (r_move rfl rfl) ?_
          refine SQ.guarded rfl rfl rfl rfl rfl ?_
          refine SQ.op rfl rfl rfl (r_move rfl rfl) ?_
          refine SQ.guarded rfl rfl rfl rfl rfl ?_
          refine SQ.opD false rfl rfl rfl (r_eqlInt rfl rfl rfl) rfl ?_
          refine SQ.guarded rfl rfl rfl rfl rfl ?_
          refine SQ.op rfl rfl rfl (r_move rfl rfl) ?_
          refine SQ.guarded rfl rfl rfl rfl rfl ?_
          refine SQ.opD false rfl rfl rfl (r_leq rfl rfl rfl) (decide_eq_false (by omega)) ?_
          refine SQ.guarded rfl rfl rfl rfl rfl ?_
          refine SQ.opD false rfl rfl rfl (r_neqBool rfl rfl rfl Tryd.underlying4) rfl ?_
          refine SQ.op rfl rfl rfl (r_pick_f rfl rfl rfl) ?_
          refine SQ.op rfl rfl rfl (r_move rfl rfl) ?_
          refine SQ.guarded rfl rfl rfl rfl rfl ?_
          refine SQ.op rfl rfl rfl (r_move rfl rfl) ?_
          refine SQ.guarded rfl rfl rfl rfl rfl ?_
          refine SQ.opD true rfl rfl rfl (r_neqInt rfl rfl rfl) rfl ?_
          refine SQ.guarded rfl rfl rfl rfl rfl ?_
          refine SQ.op rfl rfl rfl (r_move rfl rfl) ?_
          refine SQ.guarded rfl rfl rfl rfl rfl ?_
          refine SQ.op rfl rfl rfl (r_move rfl rfl) ?_
          refine SQ.guarded rfl rfl rfl rfl rfl ?_
          refine SQ.opD false rfl rfl rfl (r_neqInt rfl rfl rfl) rfl ?_
          refine SQ.guarded rfl rfl rfl rfl rfl ?_
          refine SQ.op rfl rfl rfl (r_move rfl rfl) ?_
          refine SQ.guarded rfl rfl rfl rfl rfl ?_
          refine SQ.op rfl rfl rfl (r_move rfl rfl) ?_
          refine SQ.guarded rfl rfl rfl rfl rfl ?_
          refine SQ.opD false rfl rfl rfl (r_neqInt rfl rfl rfl) rfl ?_
          refine SQ.guarded rfl rfl rfl rfl rfl ?_
          refine SQ.op rfl rfl rfl (r_pick_f rfl rfl rfl) ?_
          refine SQ.guarded rfl rfl rfl rfl rfl ?_
          refine SQ.op rfl rfl rfl (r_move rfl rfl) ?_
          refine SQ.guarded rfl rfl rfl rfl rfl ?_
          refine SQ.op rfl rfl rfl (r_fieldAddr rfl rfl Tryd.underlying25 rfl Tryd.sizeOf22 rfl) ?_
          refine SQ.guarded rfl rfl rfl rfl rfl ?_
          refine SQ.op rfl rfl rfl (r_load rfl rfl Tryd.isAgg22 (by first | exact hB15.cell rfl | exact hB4.cell rfl | assumption)) ?_
          refine SQ.guarded rfl rfl rfl rfl rfl ?_
          refine SQ.opD false rfl rfl rfl (r_neqInt rfl rfl rfl) rfl ?_
          refine SQ.guarded rfl rfl rfl rfl rfl ?_
          refine SQ.op rfl rfl rfl (r_pick_f rfl rfl rfl) ?_
          refine SQ.guarded rfl rfl rfl rfl rfl ?_
          refine SQ.op rfl rfl rfl (r_pick_t rfl rfl rfl) ?_
          refine SQ.op rfl rfl rfl (r_pick_f rfl rfl rfl) ?_
          refine SQ.nil ?_
          refine C.code ?_
          refine W.cond_f rfl ?_
          refine W.skip ?_
          refine C.code ?_
          refine W.seq ?_
          refine W.region ?_
          have hsz116 := hEw.size
          refine SQ.call rfl rfl rfl (rc_func rfl rfl Tryd.call7) (alive_spec _ hG) ?_
          rintro _ wv117 ⟨rfl, hE118⟩
          refine ⟨_, rfl, ?_⟩
          replace hFl := hFl.ext hE118
          replace hTf := hTf.ext hE118
          replace hNf := hNf.ext hE118
          replace hB4 := hB4.ext hE118
          replace hTd := hTd.ext hE118
          replace hNd := hNd.ext hE118
          replace hG := hG.ext hE118
          replace hB15 := hB15.ext hE118
          replace hEw := hEw.ext hE118
          refine SQ.op rfl rfl rfl (r_move rfl rfl) ?_
          refine SQ.guarded rfl rfl rfl rfl rfl ?_
          refine SQ.op rfl rfl rfl (r_move rfl rfl) ?_
          refine SQ.guarded rfl rfl rfl rfl rfl ?_
          by_cases hk0 : q = 0
          · refine SQ.opD true rfl rfl rfl (r_eqlInt rfl rfl rfl) (decide_eq_true (by omega)) ?_
            refine SQ.guarded rfl rfl rfl rfl rfl ?_
            refine SQ.op rfl rfl rfl (r_move rfl rfl) ?_
            refine SQ.skip rfl rfl rfl rfl rfl rfl rfl ?_
            refine SQ.skip rfl rfl rfl rfl rfl rfl rfl ?_
            refine SQ.skip rfl rfl rfl rfl rfl rfl rfl ?_
            refine SQ.skip rfl rfl rfl rfl rfl rfl rfl ?_
            refine SQ.skip rfl rfl rfl rfl rfl rfl rfl ?_
            refine SQ.skip rfl rfl rfl rfl rfl rfl rfl ?_
            refine SQ.skip rfl rfl rfl rfl rfl rfl rfl ?_
            refine SQ.skip rfl rfl rfl rfl rfl rfl rfl ?_
            refine SQ.skip rfl rfl rfl rfl rfl rfl rfl ?_
            refine SQ.guarded rfl rfl rfl rfl rfl ?_
            refine SQ.op rfl rfl rfl (r_pick_t rfl rfl rfl) ?_
            refine SQ.op rfl rfl rfl (r_pick_t rfl rfl rfl) ?_
            refine SQ.op rfl rfl rfl (r_assign rfl rfl) ?_
            refine SQ.nil ?_
            refine C.code ?_
            refine W.ret ?_
            refine C.ret1 Tryd.results4 rfl ?_
            exact ⟨rfl, hEw⟩
          · refine SQ.opD false rfl rfl rfl (r_eqlInt rfl rfl rfl) (decide_eq_false (by omega)) ?_
            have hxl1 : xs.map Nd.t = finL q := by rw [← hfin, iterP_done (by simpa using Nat.le_of_not_lt hi15)]
            have hxp : 0 < xs.length := by have := iterP_pos 300 (List.replicate q leafE) (by simp; omega); rw [show iterP 300 (List.replicate q leafE) = finL q from rfl, ← hxl1] at this; simpa using this
            obtain ⟨bf, rfl, hbf, hCf⟩ := hFl hxp
            obtain ⟨x0, hx0⟩ : ∃ x, xs[0]? = some x := ⟨_, List.getElem?_eq_getElem hxp⟩
            have hC0 := hCf.sub (g := Nd.cs) (z := 4) (fun _ => rfl) hx0
            have hck0 : checkB x0.t = decide (2 * q - 1 ≤ 200) := by rw [← gr_flat hk3 hk0, ← hxl1, List.getD_eq_getElem?_getD, List.getElem?_map, hx0]; rfl
            have hTx0 := hTf _ (List.mem_of_getElem? hx0)
            refine SQ.guarded rfl rfl rfl rfl rfl ?_
            refine SQ.op rfl rfl rfl (r_move rfl rfl) ?_
            refine SQ.guarded rfl rfl rfl rfl rfl ?_
            refine SQ.op rfl rfl rfl (r_move rfl rfl) ?_
            refine SQ.guarded rfl rfl rfl rfl rfl ?_
            refine SQ.op rfl rfl rfl (r_indexAddr rfl rfl rfl Tryd.underlying23 Tryd.sizeOf25 rfl (by omega) (j := 0)) ?_
            refine SQ.guarded rfl rfl rfl rfl rfl ?_
            refine SQ.op rfl rfl rfl (r_loadAgg rfl rfl Tryd.isAgg25 Tryd.sizeOf25 rfl (by first | exact hC0 | exact hB15.cells | exact hB4.cells | assumption)) ?_
            refine SQ.guarded rfl rfl rfl rfl rfl ?_
            have hsz119 := hEw.size
            refine SQ.call rfl rfl rfl (rc_func rfl rfl Tryd.call15) (Check_is (decide (2 * q - 1 ≤ 200)) x0.t x0.A x0.c Nf _ hTx0 hNf.le hck0) ?_
            rintro _ wv120 ⟨rfl, hE121⟩
            refine ⟨_, rfl, ?_⟩
            replace hTf := hTf.ext hE121
            replace hNf := hNf.ext hE121
            replace hB4 := hB4.ext hE121
            replace hTd := hTd.ext hE121
            replace hNd := hNd.ext hE121
            replace hG := hG.ext hE121
            replace hB15 := hB15.ext hE121
            replace hC0 := hC0.ext hE121
            replace hTx0 := hTx0.ext hE121
            replace hEw := hEw.ext hE121
            refine SQ.guarded rfl rfl rfl rfl rfl ?_
            refine SQ.op rfl rfl rfl (r_move rfl rfl) ?_
            refine SQ.guarded rfl rfl rfl rfl rfl ?_
            refine SQ.op rfl rfl rfl (r_mul rfl rfl rfl (w64 (by omega))) ?_
            refine SQ.guarded rfl rfl rfl rfl rfl ?_
            refine SQ.op rfl rfl rfl (r_sub rfl rfl rfl (w64 (by omega))) ?_
            refine SQ.guarded rfl rfl rfl rfl rfl ?_
            refine SQ.op rfl rfl rfl (r_leq rfl rfl rfl) ?_
            refine SQ.guarded rfl rfl rfl rfl rfl ?_
            refine SQ.opD true rfl rfl rfl (r_eqlBool rfl rfl rfl Tryd.underlying4) (by rw [beq_iff_eq, decide_eq_decide]; omega) ?_
            refine SQ.guarded rfl rfl rfl rfl rfl ?_
            refine SQ.op rfl rfl rfl (r_pick_f rfl rfl rfl) ?_
            refine SQ.op rfl rfl rfl (r_pick_t rfl rfl rfl) ?_
            refine SQ.op rfl rfl rfl (r_assign rfl rfl) ?_
            refine SQ.nil ?_
            refine C.code ?_
            refine W.ret ?_
            refine C.ret1 Tryd.results4 rfl ?_
            exact ⟨rfl, hEw⟩


end Go.Proofs.YtclokcmgigdjlaaDoor
