/- Printed by this session's own program out of the translation, and by hand. -/
import Derived.Test.YtclokcmgigdjlaaDoorU
set_option linter.unusedVariables false
set_option linter.unusedSimpArgs false
set_option maxRecDepth 4000
namespace Go.Proofs.YtclokcmgigdjlaaDoor
open Go.FL Go.RowKit Go.Proofs

/-! ### Texts that are read, by evaluation -/
def okT (K : Nat) (ts : List Tok) : Bool := match rankP ts K 0 0 with
  | .oof => false
  | _ => true
theorem okT_ne {K : Nat} {ts : List Tok} (h : okT K ts = true) : rankP ts K 0 0 ≠ .oof := by
  intro he; unfold okT at h; rw [he] at h; cases h
theorem RfAt.mono {w : World} {N N' : Nat} {A : Option Addr} {l : List Rf} (h : RfAt w N A l) (hN : N ≤ N') : RfAt w N' A l := fun hne => by
  obtain ⟨b, o, h1, h2, h3⟩ := h hne
  exact ⟨b, o, h1, Nat.lt_of_lt_of_le h2 hN, h3⟩
def okK (K : Nat) (s : ByteArray) : Bool := match rankP (readR s).1 K 0 0 with
  | .oof => false
  | _ => true
theorem okK_ne {K : Nat} {s : ByteArray} (h : okK K s = true) : rankP (readR s).1 K 0 0 ≠ .oof := by
  intro he; unfold okK at h; rw [he] at h; cases h
def yesB (K : Nat) (s : ByteArray) (t : Ex) : Bool := okK K s && isE K s t
theorem is_yes (K : Nat) (s : ByteArray) (hs : s.size ≤ 1000000000) (t : Ex) (A : Option Addr) (c N : Nat) (w : World) (hT : Tr w (fun b => b < N) t A c) (hN : N ≤ w.heap.size) (hG : Gl w) (h : yesB K s t = true) :
    Calls Tryd.prog 19 #[.string s, .agg (t.cs A c).toArray] w fun e w' => e = .returned (.bool true) ∧ Ext w w' := by
  unfold yesB at h
  rw [Bool.and_eq_true] at h
  have := is_spec K s hs t A c N w hT hN hG (okK_ne h.1)
  rw [h.2] at this
  exact this
theorem read_no (K : Nat) (s : ByteArray) (hs : s.size ≤ 1000000000) (w : World) (hG : Gl w) (h : (okK K s && !(readE K s).2) = true) : Calls Tryd.prog 18 #[.string s] w fun e w' =>
    ∃ A' c', e = .returned (.tuple #[.agg ((readE K s).1.cs A' c').toArray, .bool false]) ∧ Tr w' (fun b => w.heap.size ≤ b ∧ b < w'.heap.size) (readE K s).1 A' c' ∧ Ext w w' := by
  rw [Bool.and_eq_true, Bool.not_eq_true'] at h
  have := read_spec K s hs w hG (okK_ne h.1)
  rw [h.2] at this
  exact this
theorem RfAt.of {w : World} {base : Nat} {v : Value} {l : List Rf} {e : TypeId} (h : Ow w base e 2 v l.length (l.flatMap Rf.enc)) : ∃ A c, v = .slice A l.length c ∧ RfAt w w.heap.size A l := by
  by_cases hn : l = []
  · subst hn
    obtain ⟨A, c, rfl⟩ := h.slice
    exact ⟨A, c, rfl, fun h => absurd rfl h⟩
  · have hp : 0 < l.length := List.length_pos_iff.2 hn
    obtain ⟨g, cap, rfl, hb, _, hC⟩ := h.cl hp
    exact ⟨_, cap, rfl, fun _ => ⟨g, 0, rfl, (h.lt g rfl).2, hC⟩⟩
theorem SameRefs_yes (l q : List Rf) (A B : Option Addr) (c d N : Nat) (w : World) (hL : RfAt w N A l) (hQ : RfAt w N B q) (hN : N ≤ w.heap.size) (hll : l.length ≤ 1000000000000) (h : decide (l = q) = true) : Calls Tryd.prog 11 #[.slice A l.length c, .slice B q.length d] w fun e w' => e = .returned (.bool true) ∧ Ext w w' := by
  have := SameRefs_spec l q A B c d N w hL hQ hN hll
  rw [h] at this
  exact this
theorem RfAt.blk {w : World} {nb N : Nat} {l : List Rf} {t : TypeId} (h : Blk w nb (l.flatMap Rf.enc) t) (hN : nb < N) : RfAt w N (some ⟨nb, 0, none⟩) l := fun _ => ⟨nb, 0, rfl, hN, fun j v hv => h.cells j v hv⟩
theorem TkAt.blk {w : World} {nb N : Nat} {l : List Tok} {t : TypeId} (h : Blk w nb (encs l) t) (hN : nb < N) : TkAt w N (some ⟨nb, 0, none⟩) l := fun _ => ⟨nb, 0, rfl, hN, fun j v hv => h.cells j v hv⟩

/-- belfry.belfrylaw05.alive -/
theorem alive_spec (w : World) (hG : Gl w) :
    Calls Tryd.prog 7 #[] w fun e w' => e = .returned (.bool true) ∧ Ext w w' := by
  refine calls_of Tryd.func7 rfl Tryd.ntmps7 rfl ?_
  have hEw := Kp.refl (fun _ => False) w
  refine W.seq ?_
  refine W.region ?_
  refine SQ.op rfl rfl rfl (r_assign rfl rfl) ?_
  refine SQ.nil ?_
  refine C.code ?_
  refine W.seq ?_
  refine W.region ?_
  have hsz1 := hEw.size
  refine SQ.call rfl rfl rfl (rc_func rfl rfl Tryd.call12) (name_spec _ _) ?_
  rintro _ wv2 ⟨rfl, hE3⟩
  refine ⟨_, rfl, ?_⟩
  replace hG := hG.ext hE3
  replace hEw := hEw.ext hE3
  have hsz8 := hEw.size
  refine SQ.new (v := (fun nb => .pointer (some ⟨nb, 0, none⟩))) rfl rfl rfl (r_alloc rfl Tryd.zeroValue25) ?_
  intro nb1 wv4 hge5 hlt6 hB1 hE7
  have hge_hG_hB1 := Nat.le_trans hG.size hge5
  replace hG := hG.ext hE7
  replace hEw := hEw.ext hE7
  replace hB1 : Blk wv4 nb1 _ _ := hB1
  refine SQ.storeA rfl rfl rfl rfl rfl Tryd.sizeOf25 rfl hB1 ⟨rfl, rfl⟩ ?_
  intro wv9 hS11 hK10
  have hsz12 := hK10.size
  replace hG := hG.kp hK10 (by intro b hb hs; omega)
  replace hB1 : Blk wv9 _ _ _ := hS11
  clear hS11
  replace hEw := hEw.new hK10 (by intro b hb; subst hb; omega)
  refine SQ.nil ?_
  refine C.code ?_
  refine W.seq ?_
  refine W.region ?_
  have hsz13 := hEw.size
  refine SQ.call rfl rfl rfl (rc_func rfl rfl Tryd.call12) (name_spec _ _) ?_
  rintro _ wv14 ⟨rfl, hE15⟩
  refine ⟨_, rfl, ?_⟩
  replace hG := hG.ext hE15
  replace hB1 := hB1.ext hE15
  replace hEw := hEw.ext hE15
  have hsz20 := hEw.size
  refine SQ.new (v := (fun nb => .pointer (some ⟨nb, 0, none⟩))) rfl rfl rfl (r_alloc rfl Tryd.zeroValue25) ?_
  intro nb2 wv16 hge17 hlt18 hB2 hE19
  have hge_hG_hB2 := Nat.le_trans hG.size hge17
  have hlt_hB1_hB2 := Nat.lt_of_lt_of_le hB1.lt hge17
  replace hG := hG.ext hE19
  replace hB1 := hB1.ext hE19
  replace hEw := hEw.ext hE19
  replace hB2 : Blk wv16 nb2 _ _ := hB2
  refine SQ.storeA rfl rfl rfl rfl rfl Tryd.sizeOf25 rfl hB2 ⟨rfl, rfl⟩ ?_
  intro wv21 hS23 hK22
  have hsz24 := hK22.size
  replace hG := hG.kp hK22 (by intro b hb hs; omega)
  replace hB1 := hB1.kp hK22 (by omega)
  replace hB2 : Blk wv21 _ _ _ := hS23
  clear hS23
  replace hEw := hEw.new hK22 (by intro b hb; subst hb; omega)
  refine SQ.nil ?_
  refine C.code ?_
  refine W.seq ?_
  refine W.region ?_
  have hsz25 := hEw.size
  refine SQ.call rfl rfl rfl (rc_func rfl rfl Tryd.call12) (name_spec _ _) ?_
  rintro _ wv26 ⟨rfl, hE27⟩
  refine ⟨_, rfl, ?_⟩
  replace hG := hG.ext hE27
  replace hB1 := hB1.ext hE27
  replace hB2 := hB2.ext hE27
  replace hEw := hEw.ext hE27
  have hsz32 := hEw.size
  refine SQ.new (v := (fun nb => .pointer (some ⟨nb, 0, none⟩))) rfl rfl rfl (r_alloc rfl Tryd.zeroValue25) ?_
  intro nb3 wv28 hge29 hlt30 hB3 hE31
  have hge_hG_hB3 := Nat.le_trans hG.size hge29
  have hlt_hB1_hB3 := Nat.lt_of_lt_of_le hB1.lt hge29
  have hlt_hB2_hB3 := Nat.lt_of_lt_of_le hB2.lt hge29
  replace hG := hG.ext hE31
  replace hB1 := hB1.ext hE31
  replace hB2 := hB2.ext hE31
  replace hEw := hEw.ext hE31
  replace hB3 : Blk wv28 nb3 _ _ := hB3
  refine SQ.storeA rfl rfl rfl rfl rfl Tryd.sizeOf25 rfl hB3 ⟨rfl, rfl⟩ ?_
  intro wv33 hS35 hK34
  have hsz36 := hK34.size
  replace hG := hG.kp hK34 (by intro b hb hs; omega)
  replace hB1 := hB1.kp hK34 (by omega)
  replace hB2 := hB2.kp hK34 (by omega)
  replace hB3 : Blk wv33 _ _ _ := hS35
  clear hS35
  replace hEw := hEw.new hK34 (by intro b hb; subst hb; omega)
  refine SQ.nil ?_
  refine C.code ?_
  refine W.seq ?_
  refine W.region ?_
  have hszq := hEw.size
  have hlt38 := hB1.lt
  have hlt39 := hB2.lt
  have hlt40 := hB3.lt
  refine SQ.call rfl rfl rfl (rc_func rfl rfl Tryd.call18) (read_no 200 _ (by decide) _ hG (by kernel_rfl)) ?_
  rintro _ wv37 ⟨A', c', rfl, hX, hEr⟩
  refine ⟨_, rfl, ?_⟩
  replace hG := hG.ext hEr
  replace hB1 := hB1.ext hEr
  replace hB2 := hB2.ext hEr
  replace hB3 := hB3.ext hEr
  replace hEw := hEw.ext hEr
  refine SQ.op rfl rfl rfl (r_move rfl rfl) ?_
  refine SQ.op rfl rfl rfl (r_extract rfl rfl rfl) ?_
  refine SQ.op rfl rfl rfl (r_extract rfl rfl rfl) ?_
  have hsz45 := hEw.size
  refine SQ.new (v := (fun nb => .pointer (some ⟨nb, 0, none⟩))) rfl rfl rfl (r_alloc rfl Tryd.zeroValue25) ?_
  intro nb4 wv41 hge42 hlt43 hB4 hE44
  have hge_hG_hB4 := Nat.le_trans hG.size hge42
  have hlt_hB1_hB4 := Nat.lt_of_lt_of_le hB1.lt hge42
  have hlt_hB2_hB4 := Nat.lt_of_lt_of_le hB2.lt hge42
  have hlt_hB3_hB4 := Nat.lt_of_lt_of_le hB3.lt hge42
  replace hG := hG.ext hE44
  replace hB1 := hB1.ext hE44
  replace hB2 := hB2.ext hE44
  replace hB3 := hB3.ext hE44
  replace hEw := hEw.ext hE44
  replace hB4 : Blk wv41 nb4 _ _ := hB4
  refine SQ.storeA rfl rfl rfl rfl rfl Tryd.sizeOf25 rfl hB4 ⟨rfl, rfl⟩ ?_
  intro wv46 hS48 hK47
  have hsz49 := hK47.size
  replace hG := hG.kp hK47 (by intro b hb hs; omega)
  replace hB1 := hB1.kp hK47 (by omega)
  replace hB2 := hB2.kp hK47 (by omega)
  replace hB3 := hB3.kp hK47 (by omega)
  replace hB4 : Blk wv46 _ _ _ := hS48
  clear hS48
  replace hEw := hEw.new hK47 (by intro b hb; subst hb; omega)
  refine SQ.op rfl rfl rfl (r_assign rfl rfl) ?_
  refine SQ.nil ?_
  refine C.code ?_
  refine W.seq ?_
  refine W.region ?_
  refine SQ.op rfl rfl rfl (r_loadAgg rfl rfl Tryd.isAgg25 Tryd.sizeOf25 rfl (by first | exact hB4.cells | exact hB3.cells | exact hB2.cells | exact hB1.cells | assumption)) ?_
  have hsz54 := hEw.size
  refine SQ.new (v := (fun nb => .slice (some ⟨nb, 0, none⟩) 1 1)) rfl rfl rfl (r_buildSlice rfl rfl Tryd.underlying23 Tryd.sizeOf25 Tryd.zeroValue25 rfl rfl rfl rfl rfl) ?_
  intro nb23 wv50 hge51 hlt52 hB23 hE53
  have hge_hG_hB23 := Nat.le_trans hG.size hge51
  have hlt_hB1_hB23 := Nat.lt_of_lt_of_le hB1.lt hge51
  have hlt_hB2_hB23 := Nat.lt_of_lt_of_le hB2.lt hge51
  have hlt_hB3_hB23 := Nat.lt_of_lt_of_le hB3.lt hge51
  have hlt_hB4_hB23 := Nat.lt_of_lt_of_le hB4.lt hge51
  replace hG := hG.ext hE53
  replace hB1 := hB1.ext hE53
  replace hB2 := hB2.ext hE53
  replace hB3 := hB3.ext hE53
  replace hB4 := hB4.ext hE53
  replace hEw := hEw.ext hE53
  replace hB23 : Blk wv50 nb23 _ _ := hB23
  have hsz55 := hEw.size
  refine SQ.call rfl rfl rfl (rc_func rfl rfl Tryd.call10) (of_spec _ _ _ _ _) ?_
  rintro _ wv56 ⟨rfl, hE57⟩
  refine ⟨_, rfl, ?_⟩
  replace hG := hG.ext hE57
  replace hB1 := hB1.ext hE57
  replace hB2 := hB2.ext hE57
  replace hB3 := hB3.ext hE57
  replace hB4 := hB4.ext hE57
  replace hB23 := hB23.ext hE57
  replace hEw := hEw.ext hE57
  refine SQ.call rfl rfl rfl (rc_func rfl rfl Tryd.call17) (Text_spec (.mk 6 0 ⟨#[]⟩ [(nameE ⟨#[97]⟩)]) _ _ _ _ (Tr.mk1 hB23 (Blk.lt hB23) (.nil (by decide))) (Nat.le_refl _) hG) ?_
  rintro _ wv58 ⟨rfl, hE59⟩
  refine ⟨_, rfl, ?_⟩
  replace hG := hG.ext hE59
  replace hB1 := hB1.ext hE59
  replace hB2 := hB2.ext hE59
  replace hB3 := hB3.ext hE59
  replace hB4 := hB4.ext hE59
  replace hB23 := hB23.ext hE59
  replace hEw := hEw.ext hE59
  refine SQ.op rfl rfl rfl (r_move rfl rfl) ?_
  refine SQ.op rfl rfl rfl (r_extract rfl rfl rfl) ?_
  refine SQ.op rfl rfl rfl (r_extract rfl rfl rfl) ?_
  refine SQ.op rfl rfl rfl (r_assign rfl rfl) ?_
  refine SQ.op rfl rfl rfl (r_assign rfl rfl) ?_
  refine SQ.nil ?_
  refine C.code ?_
  refine W.seq ?_
  refine W.region ?_
  refine SQ.op rfl rfl rfl (r_build (pl := [(0, 1), (1, 1), (2, 1), (3, 1)]) rfl rfl Tryd.underlying25 Tryd.zeroValue25 (fun _ => by kernel_rfl) rfl rfl) ?_
  refine SQ.call rfl rfl rfl (rc_func rfl rfl Tryd.call17) (Text_spec (.mk 1 (-1) ⟨#[]⟩ []) _ _ _ _ (.nil (by decide)) (Nat.le_refl _) hG) ?_
  rintro _ wv60 ⟨rfl, hE61⟩
  refine ⟨_, rfl, ?_⟩
  replace hG := hG.ext hE61
  replace hB1 := hB1.ext hE61
  replace hB2 := hB2.ext hE61
  replace hB3 := hB3.ext hE61
  replace hB4 := hB4.ext hE61
  replace hB23 := hB23.ext hE61
  replace hEw := hEw.ext hE61
  refine SQ.op rfl rfl rfl (r_move rfl rfl) ?_
  refine SQ.op rfl rfl rfl (r_extract rfl rfl rfl) ?_
  refine SQ.op rfl rfl rfl (r_extract rfl rfl rfl) ?_
  refine SQ.op rfl rfl rfl (r_assign rfl rfl) ?_
  refine SQ.op rfl rfl rfl (r_assign rfl rfl) ?_
  refine SQ.nil ?_
  refine C.code ?_
  refine W.seq ?_
  refine W.held (fun w' => Kp (fun b => False) wv60 w') mixed ?_
  intro wv62 hE63 _
  have hS64 : Kp (fun b => False) wv60 wv62 := hE63.to _
  refine AH.take 0 rfl (by kernel_rfl) (by kernel_rfl) (by kernel_rfl) PanOk.fn rfl rfl rfl hS64 (fun w' hS => r_loadAgg rfl rfl Tryd.isAgg25 Tryd.sizeOf25 rfl (by first | exact (fun j v hv => hS.cell (hB23.cells j v hv) id) | exact (fun j v hv => hS.cell (hB4.cells j v hv) id) | exact (fun j v hv => hS.cell (hB3.cells j v hv) id) | exact (fun j v hv => hS.cell (hB2.cells j v hv) id) | exact (fun j v hv => hS.cell (hB1.cells j v hv) id) | assumption)) ?_
  refine AH.take 1 rfl (by kernel_rfl) (by kernel_rfl) (by kernel_rfl) PanOk.fn rfl rfl rfl hS64 (fun w' hS => r_loadAgg rfl rfl Tryd.isAgg25 Tryd.sizeOf25 rfl (by first | exact (fun j v hv => hS.cell (hB23.cells j v hv) id) | exact (fun j v hv => hS.cell (hB4.cells j v hv) id) | exact (fun j v hv => hS.cell (hB3.cells j v hv) id) | exact (fun j v hv => hS.cell (hB2.cells j v hv) id) | exact (fun j v hv => hS.cell (hB1.cells j v hv) id) | assumption)) ?_
  refine AH.take 2 rfl (by kernel_rfl) (by kernel_rfl) (by kernel_rfl) PanOk.fn rfl rfl rfl hS64 (fun w' hS => r_loadAgg rfl rfl Tryd.isAgg25 Tryd.sizeOf25 rfl (by first | exact (fun j v hv => hS.cell (hB23.cells j v hv) id) | exact (fun j v hv => hS.cell (hB4.cells j v hv) id) | exact (fun j v hv => hS.cell (hB3.cells j v hv) id) | exact (fun j v hv => hS.cell (hB2.cells j v hv) id) | exact (fun j v hv => hS.cell (hB1.cells j v hv) id) | assumption)) ?_
  refine AH.one 3 rfl (by kernel_rfl) rfl ?_
  have hsz70 := hS64.size
  have hlt0_hB1_hB36 := hB1.lt
  have hlt0_hB2_hB36 := hB2.lt
  have hlt0_hB3_hB36 := hB3.lt
  have hlt0_hB4_hB36 := hB4.lt
  have hlt0_hB23_hB36 := hB23.lt
  have hsz71 := hEw.size
  refine OW.new (v := (fun nb => .slice (some ⟨nb, 0, none⟩) 1 1)) rfl rfl (r_buildSlice rfl rfl Tryd.underlying23 Tryd.sizeOf25 Tryd.zeroValue25 rfl rfl rfl rfl rfl) ?_
  intro nb36 wv65 hge68 hlt69 hB36 hE66
  replace hB36 : Blk wv65 nb36 _ _ := hB36
  have hS67 := hS64.ext hE66
  have hA72 := Ext.trans hE63 hE66
  refine OW.next hS67 ?_
  refine AH.one 4 rfl (by kernel_rfl) rfl ?_
  refine OW.call rfl rfl (rc_func rfl rfl Tryd.call10) (of_spec _ _ _ _ _) ?_
  rintro _ wv73 ⟨rfl, hE74⟩
  refine .inl ⟨_, rfl, ?_⟩
  replace hB36 := hB36.ext hE74
  have hS75 := hS67.ext hE74
  have hA76 := Ext.trans hA72 hE74
  refine OW.next hS75 ?_
  refine AH.one 5 rfl (by kernel_rfl) rfl ?_
  have hsz82 := hS75.size
  have hlt0_hB1_hB38 := hB1.lt
  have hlt0_hB2_hB38 := hB2.lt
  have hlt0_hB3_hB38 := hB3.lt
  have hlt0_hB4_hB38 := hB4.lt
  have hlt0_hB23_hB38 := hB23.lt
  have hsz83 := hEw.size
  refine OW.new (v := (fun nb => .slice (some ⟨nb, 0, none⟩) 2 2)) rfl rfl (r_buildSlice rfl rfl Tryd.underlying23 Tryd.sizeOf25 Tryd.zeroValue25 rfl rfl rfl rfl rfl) ?_
  intro nb38 wv77 hge80 hlt81 hB38 hE78
  have hlt_hB36_hB38 := Nat.lt_of_lt_of_le hB36.lt hge80
  replace hB36 := hB36.ext hE78
  replace hB38 : Blk wv77 nb38 _ _ := hB38
  have hS79 := hS75.ext hE78
  have hA84 := Ext.trans hA76 hE78
  refine OW.next hS79 ?_
  refine AH.one 6 rfl (by kernel_rfl) rfl ?_
  refine OW.call rfl rfl (rc_func rfl rfl Tryd.call10) (of_spec _ _ _ _ _) ?_
  rintro _ wv85 ⟨rfl, hE86⟩
  refine .inl ⟨_, rfl, ?_⟩
  replace hB36 := hB36.ext hE86
  replace hB38 := hB38.ext hE86
  have hS87 := hS79.ext hE86
  have hA88 := Ext.trans hA84 hE86
  refine OW.next hS87 ?_
  refine AH.one 7 rfl (by kernel_rfl) rfl ?_
  have hsz94 := hS87.size
  have hlt0_hB1_hB40 := hB1.lt
  have hlt0_hB2_hB40 := hB2.lt
  have hlt0_hB3_hB40 := hB3.lt
  have hlt0_hB4_hB40 := hB4.lt
  have hlt0_hB23_hB40 := hB23.lt
  have hsz95 := hEw.size
  refine OW.new (v := (fun nb => .slice (some ⟨nb, 0, none⟩) 1 1)) rfl rfl (r_buildSlice rfl rfl Tryd.underlying23 Tryd.sizeOf25 Tryd.zeroValue25 rfl rfl rfl rfl rfl) ?_
  intro nb40 wv89 hge92 hlt93 hB40 hE90
  have hlt_hB36_hB40 := Nat.lt_of_lt_of_le hB36.lt hge92
  have hlt_hB38_hB40 := Nat.lt_of_lt_of_le hB38.lt hge92
  replace hB36 := hB36.ext hE90
  replace hB38 := hB38.ext hE90
  replace hB40 : Blk wv89 nb40 _ _ := hB40
  have hS91 := hS87.ext hE90
  have hA96 := Ext.trans hA88 hE90
  refine OW.next hS91 ?_
  refine AH.one 8 rfl (by kernel_rfl) rfl ?_
  refine OW.call rfl rfl (rc_func rfl rfl Tryd.call10) (of_spec _ _ _ _ _) ?_
  rintro _ wv97 ⟨rfl, hE98⟩
  refine .inl ⟨_, rfl, ?_⟩
  replace hB36 := hB36.ext hE98
  replace hB38 := hB38.ext hE98
  replace hB40 := hB40.ext hE98
  have hS99 := hS91.ext hE98
  have hA100 := Ext.trans hA96 hE98
  refine OW.next hS99 ?_
  refine AH.one 9 rfl (by kernel_rfl) rfl ?_
  have hsz106 := hS99.size
  have hlt0_hB1_hB42 := hB1.lt
  have hlt0_hB2_hB42 := hB2.lt
  have hlt0_hB3_hB42 := hB3.lt
  have hlt0_hB4_hB42 := hB4.lt
  have hlt0_hB23_hB42 := hB23.lt
  have hsz107 := hEw.size
  refine OW.new (v := (fun nb => .slice (some ⟨nb, 0, none⟩) 2 2)) rfl rfl (r_buildSlice rfl rfl Tryd.underlying23 Tryd.sizeOf25 Tryd.zeroValue25 rfl rfl rfl rfl rfl) ?_
  intro nb42 wv101 hge104 hlt105 hB42 hE102
  have hlt_hB36_hB42 := Nat.lt_of_lt_of_le hB36.lt hge104
  have hlt_hB38_hB42 := Nat.lt_of_lt_of_le hB38.lt hge104
  have hlt_hB40_hB42 := Nat.lt_of_lt_of_le hB40.lt hge104
  replace hB36 := hB36.ext hE102
  replace hB38 := hB38.ext hE102
  replace hB40 := hB40.ext hE102
  replace hB42 : Blk wv101 nb42 _ _ := hB42
  have hS103 := hS99.ext hE102
  have hA108 := Ext.trans hA100 hE102
  refine OW.next hS103 ?_
  refine AH.one 10 rfl (by kernel_rfl) rfl ?_
  refine OW.call rfl rfl (rc_func rfl rfl Tryd.call10) (of_spec _ _ _ _ _) ?_
  rintro _ wv109 ⟨rfl, hE110⟩
  refine .inl ⟨_, rfl, ?_⟩
  replace hB36 := hB36.ext hE110
  replace hB38 := hB38.ext hE110
  replace hB40 := hB40.ext hE110
  replace hB42 := hB42.ext hE110
  have hS111 := hS103.ext hE110
  have hA112 := Ext.trans hA108 hE110
  refine OW.next hS111 ?_
  refine AH.one 11 rfl (by kernel_rfl) rfl ?_
  refine OW.call rfl rfl (rc_func rfl rfl Tryd.call9) (Refs_spec (.mk 6 0 ⟨#[]⟩ [(nameE ⟨#[97]⟩), (.mk 19 0 ⟨#[]⟩ [(.mk 6 0 ⟨#[]⟩ [(nameE ⟨#[97]⟩), (.mk 19 0 ⟨#[]⟩ [(nameE ⟨#[98]⟩)])])])]) _ _ _ _ (Tr.mk2 hB42 (Blk.lt hB42) (.nil (by decide)) (Tr.mk1 hB40 (Blk.lt hB40) (Tr.mk2 hB38 (Blk.lt hB38) (.nil (by decide)) (Tr.mk1 hB36 (Blk.lt hB36) (.nil (by decide)))))) rfl (of_decide_eq_true (by kernel_rfl))) ?_
  rintro _ wv113 ⟨vr, br, rfl, hbr, hO, hE114⟩
  refine .inl ⟨_, rfl, ?_⟩
  replace hB36 := hB36.ext hE114
  replace hB38 := hB38.ext hE114
  replace hB40 := hB40.ext hE114
  replace hB42 := hB42.ext hE114
  have hS115 := hS111.ext hE114
  have hA116 := Ext.trans hA112 hE114
  refine OW.next hS115 ?_
  refine AH.take 12 rfl (by kernel_rfl) (by kernel_rfl) (by kernel_rfl) PanOk.fn rfl rfl rfl hS115 (fun w' hS => r_assign rfl rfl) ?_
  refine AH.done (by kernel_rfl) ?_
  replace hG := hG.ext hS115
  replace hB1 := hB1.ext hS115
  replace hB2 := hB2.ext hS115
  replace hB3 := hB3.ext hS115
  replace hB4 := hB4.ext hS115
  replace hB23 := hB23.ext hS115
  replace hEw := hEw.ext hS115
  refine C.code ?_
  refine W.seq ?_
  refine W.region ?_
  refine SQ.op rfl rfl rfl (r_build (pl := [(0, 1), (1, 1), (2, 1)]) rfl rfl Tryd.underlying57 Tryd.zeroValue57 (fun _ => by kernel_rfl) rfl rfl) ?_
  refine SQ.op rfl rfl rfl (r_build (pl := [(0, 1), (1, 1), (2, 1)]) rfl rfl Tryd.underlying57 Tryd.zeroValue57 (fun _ => by kernel_rfl) rfl rfl) ?_
  have hsz121 := hEw.size
  refine SQ.new (v := (fun nb => .slice (some ⟨nb, 0, none⟩) 2 2)) rfl rfl rfl (r_buildSlice rfl rfl Tryd.underlying37 Tryd.sizeOf57 Tryd.zeroValue57 rfl rfl rfl rfl rfl) ?_
  intro nb48 wv117 hge118 hlt119 hB48 hE120
  have hge_hG_hB48 := Nat.le_trans hG.size hge118
  have hlt_hB1_hB48 := Nat.lt_of_lt_of_le hB1.lt hge118
  have hlt_hB2_hB48 := Nat.lt_of_lt_of_le hB2.lt hge118
  have hlt_hB3_hB48 := Nat.lt_of_lt_of_le hB3.lt hge118
  have hlt_hB4_hB48 := Nat.lt_of_lt_of_le hB4.lt hge118
  have hlt_hB23_hB48 := Nat.lt_of_lt_of_le hB23.lt hge118
  have hlt_hB36_hB48 := Nat.lt_of_lt_of_le hB36.lt hge118
  have hlt_hB38_hB48 := Nat.lt_of_lt_of_le hB38.lt hge118
  have hlt_hB40_hB48 := Nat.lt_of_lt_of_le hB40.lt hge118
  have hlt_hB42_hB48 := Nat.lt_of_lt_of_le hB42.lt hge118
  replace hG := hG.ext hE120
  replace hB1 := hB1.ext hE120
  replace hB2 := hB2.ext hE120
  replace hB3 := hB3.ext hE120
  replace hB4 := hB4.ext hE120
  replace hB23 := hB23.ext hE120
  replace hB36 := hB36.ext hE120
  replace hB38 := hB38.ext hE120
  replace hB40 := hB40.ext hE120
  replace hB42 := hB42.ext hE120
  replace hO := hO.ext hE120
  replace hEw := hEw.ext hE120
  replace hB48 : Blk wv117 nb48 _ _ := hB48
  refine SQ.call rfl rfl rfl (rc_func rfl rfl Tryd.call14) (Parse_spec 200 [⟨2, ⟨#[49]⟩, 0⟩, ⟨3, ⟨#[43]⟩, 0⟩] _ _ _ _ (TkAt.blk hB48 hB48.lt) (Nat.le_refl _) (by decide) (by decide) hG (okT_ne (by kernel_rfl))) ?_
  rintro _ wv122 ⟨A', c', rfl, hT, hEp⟩
  refine ⟨_, rfl, ?_⟩
  replace hG := hG.ext hEp
  replace hB1 := hB1.ext hEp
  replace hB2 := hB2.ext hEp
  replace hB3 := hB3.ext hEp
  replace hB4 := hB4.ext hEp
  replace hB23 := hB23.ext hEp
  replace hB36 := hB36.ext hEp
  replace hB38 := hB38.ext hEp
  replace hB40 := hB40.ext hEp
  replace hB42 := hB42.ext hEp
  replace hO := hO.ext hEp
  replace hB48 := hB48.ext hEp
  replace hEw := hEw.ext hEp
  refine SQ.op rfl rfl rfl (r_move rfl rfl) ?_
  refine SQ.op rfl rfl rfl (r_extract rfl rfl rfl) ?_
  refine SQ.op rfl rfl rfl (r_extract rfl rfl rfl) ?_
  refine SQ.op rfl rfl rfl (r_extract rfl rfl rfl) ?_
  have hsz127 := hEw.size
  refine SQ.new (v := (fun nb => .pointer (some ⟨nb, 0, none⟩))) rfl rfl rfl (r_alloc rfl Tryd.zeroValue25) ?_
  intro nb11 wv123 hge124 hlt125 hB11 hE126
  have hge_hG_hB11 := Nat.le_trans hG.size hge124
  have hlt_hB1_hB11 := Nat.lt_of_lt_of_le hB1.lt hge124
  have hlt_hB2_hB11 := Nat.lt_of_lt_of_le hB2.lt hge124
  have hlt_hB3_hB11 := Nat.lt_of_lt_of_le hB3.lt hge124
  have hlt_hB4_hB11 := Nat.lt_of_lt_of_le hB4.lt hge124
  have hlt_hB23_hB11 := Nat.lt_of_lt_of_le hB23.lt hge124
  have hlt_hB36_hB11 := Nat.lt_of_lt_of_le hB36.lt hge124
  have hlt_hB38_hB11 := Nat.lt_of_lt_of_le hB38.lt hge124
  have hlt_hB40_hB11 := Nat.lt_of_lt_of_le hB40.lt hge124
  have hlt_hB42_hB11 := Nat.lt_of_lt_of_le hB42.lt hge124
  have hlt_hB48_hB11 := Nat.lt_of_lt_of_le hB48.lt hge124
  replace hG := hG.ext hE126
  replace hB1 := hB1.ext hE126
  replace hB2 := hB2.ext hE126
  replace hB3 := hB3.ext hE126
  replace hB4 := hB4.ext hE126
  replace hB23 := hB23.ext hE126
  replace hB36 := hB36.ext hE126
  replace hB38 := hB38.ext hE126
  replace hB40 := hB40.ext hE126
  replace hB42 := hB42.ext hE126
  replace hO := hO.ext hE126
  replace hB48 := hB48.ext hE126
  replace hEw := hEw.ext hE126
  replace hB11 : Blk wv123 nb11 _ _ := hB11
  refine SQ.storeA rfl rfl rfl rfl rfl Tryd.sizeOf25 rfl hB11 ⟨rfl, rfl⟩ ?_
  intro wv128 hS130 hK129
  have hsz131 := hK129.size
  replace hG := hG.kp hK129 (by intro b hb hs; omega)
  replace hB1 := hB1.kp hK129 (by omega)
  replace hB2 := hB2.kp hK129 (by omega)
  replace hB3 := hB3.kp hK129 (by omega)
  replace hB4 := hB4.kp hK129 (by omega)
  replace hB23 := hB23.kp hK129 (by omega)
  replace hB36 := hB36.kp hK129 (by omega)
  replace hB38 := hB38.kp hK129 (by omega)
  replace hB40 := hB40.kp hK129 (by omega)
  replace hB42 := hB42.kp hK129 (by omega)
  replace hO := hO.kp hK129 (by first | (rintro _ rfl; exact hO.ne hB11 rfl) | (rintro _ rfl hq; have := hO.lt _ hq; omega))
  replace hB48 := hB48.kp hK129 (by omega)
  replace hB11 : Blk wv128 _ _ _ := hS130
  clear hS130
  replace hEw := hEw.new hK129 (by intro b hb; subst hb; omega)
  refine SQ.op rfl rfl rfl (r_assign rfl rfl) ?_
  refine SQ.op rfl rfl rfl (r_assign rfl rfl) ?_
  refine SQ.nil ?_
  refine C.code ?_
  refine W.seq ?_
  obtain ⟨Ar, cr, rfl, hRf⟩ := RfAt.of hO
  refine W.held (fun w' => Kp (fun b => False) wv128 w') mixed ?_
  intro wv132 hE133 _
  have hS134 : Kp (fun b => False) wv128 wv132 := hE133.to _
  refine AH.take 0 rfl (by kernel_rfl) (by kernel_rfl) (by kernel_rfl) PanOk.fn rfl rfl rfl hS134 (fun w' hS => r_move rfl rfl) ?_
  refine AH.takeD true 1 rfl (by kernel_rfl) (by kernel_rfl) (by kernel_rfl) PanOk.fn rfl rfl rfl hS134 (fun w' hS => r_not rfl rfl) (by kernel_rfl) ?_
  refine AH.take 2 rfl (by kernel_rfl) (by kernel_rfl) (by kernel_rfl) PanOk.fn rfl rfl rfl hS134 (fun w' hS => r_move rfl rfl) ?_
  refine AH.takeG 3 rfl (by kernel_rfl) (by kernel_rfl) (by kernel_rfl) PanOk.fn rfl rfl rfl rfl rfl rfl rfl hS134 (fun w' hS => r_move rfl rfl) ?_
  refine AH.takeGD true 4 rfl (by kernel_rfl) (by kernel_rfl) (by kernel_rfl) PanOk.fn rfl rfl rfl rfl rfl rfl rfl hS134 (fun w' hS => r_eqlInt rfl rfl rfl) (by kernel_rfl) ?_
  refine AH.take 5 rfl (by kernel_rfl) (by kernel_rfl) (by kernel_rfl) PanOk.fn rfl rfl rfl hS134 (fun w' hS => r_pick_t rfl rfl rfl) ?_
  refine AH.take 6 rfl (by kernel_rfl) (by kernel_rfl) (by kernel_rfl) PanOk.fn rfl rfl rfl hS134 (fun w' hS => r_move rfl rfl) ?_
  refine AH.takeG 7 rfl (by kernel_rfl) (by kernel_rfl) (by kernel_rfl) PanOk.fn rfl rfl rfl rfl rfl rfl rfl hS134 (fun w' hS => r_move rfl rfl) ?_
  refine AH.takeGD true 8 rfl (by kernel_rfl) (by kernel_rfl) (by kernel_rfl) PanOk.fn rfl rfl rfl rfl rfl rfl rfl hS134 (fun w' hS => r_eqlInt rfl rfl rfl) (by kernel_rfl) ?_
  refine AH.take 9 rfl (by kernel_rfl) (by kernel_rfl) (by kernel_rfl) PanOk.fn rfl rfl rfl hS134 (fun w' hS => r_pick_t rfl rfl rfl) ?_
  refine AH.take 10 rfl (by kernel_rfl) (by kernel_rfl) (by kernel_rfl) PanOk.fn rfl rfl rfl hS134 (fun w' hS => r_move rfl rfl) ?_
  refine AH.takeG 11 rfl (by kernel_rfl) (by kernel_rfl) (by kernel_rfl) PanOk.fn rfl rfl rfl rfl rfl rfl rfl hS134 (fun w' hS => r_move rfl rfl) ?_
  refine AH.takeGD true 12 rfl (by kernel_rfl) (by kernel_rfl) (by kernel_rfl) PanOk.fn rfl rfl rfl rfl rfl rfl rfl hS134 (fun w' hS => r_eqlInt rfl rfl rfl) (by kernel_rfl) ?_
  refine AH.take 13 rfl (by kernel_rfl) (by kernel_rfl) (by kernel_rfl) PanOk.fn rfl rfl rfl hS134 (fun w' hS => r_pick_t rfl rfl rfl) ?_
  refine AH.take 14 rfl (by kernel_rfl) (by kernel_rfl) (by kernel_rfl) PanOk.fn rfl rfl rfl hS134 (fun w' hS => r_move rfl rfl) ?_
  refine AH.takeG 15 rfl (by kernel_rfl) (by kernel_rfl) (by kernel_rfl) PanOk.fn rfl rfl rfl rfl rfl rfl rfl hS134 (fun w' hS => r_move rfl rfl) ?_
  refine AH.takeGD true 16 rfl (by kernel_rfl) (by kernel_rfl) (by kernel_rfl) PanOk.fn rfl rfl rfl rfl rfl rfl rfl hS134 (fun w' hS => r_eqlInt rfl rfl rfl) (by kernel_rfl) ?_
  refine AH.take 17 rfl (by kernel_rfl) (by kernel_rfl) (by kernel_rfl) PanOk.fn rfl rfl rfl hS134 (fun w' hS => r_pick_t rfl rfl rfl) ?_
  refine AH.take 18 rfl (by kernel_rfl) (by kernel_rfl) (by kernel_rfl) PanOk.fn rfl rfl rfl hS134 (fun w' hS => r_move rfl rfl) ?_
  refine AH.takeG 19 rfl (by kernel_rfl) (by kernel_rfl) (by kernel_rfl) PanOk.fn rfl rfl rfl rfl rfl rfl rfl hS134 (fun w' hS => r_move rfl rfl) ?_
  refine AH.takeG 20 rfl (by kernel_rfl) (by kernel_rfl) (by kernel_rfl) PanOk.fn rfl rfl rfl rfl rfl rfl rfl hS134 (fun w' hS => r_build (pl := [(0, 1), (1, 1)]) rfl rfl Tryd.underlying32 Tryd.zeroValue32 (fun _ => by kernel_rfl) rfl rfl) ?_
  refine AH.takeG 21 rfl (by kernel_rfl) (by kernel_rfl) (by kernel_rfl) PanOk.fn rfl rfl rfl rfl rfl rfl rfl hS134 (fun w' hS => r_build (pl := [(0, 1), (1, 1)]) rfl rfl Tryd.underlying32 Tryd.zeroValue32 (fun _ => by kernel_rfl) rfl rfl) ?_
  refine AH.takeG 22 rfl (by kernel_rfl) (by kernel_rfl) (by kernel_rfl) PanOk.fn rfl rfl rfl rfl rfl rfl rfl hS134 (fun w' hS => r_build (pl := [(0, 1), (1, 1)]) rfl rfl Tryd.underlying32 Tryd.zeroValue32 (fun _ => by kernel_rfl) rfl rfl) ?_
  refine AH.oneG 23 rfl (by kernel_rfl) rfl rfl rfl rfl rfl ?_
  have hsz140 := hS134.size
  have hlt0_hB1_hB76 := hB1.lt
  have hlt0_hB2_hB76 := hB2.lt
  have hlt0_hB3_hB76 := hB3.lt
  have hlt0_hB4_hB76 := hB4.lt
  have hlt0_hB23_hB76 := hB23.lt
  have hlt0_hB36_hB76 := hB36.lt
  have hlt0_hB38_hB76 := hB38.lt
  have hlt0_hB40_hB76 := hB40.lt
  have hlt0_hB42_hB76 := hB42.lt
  have hlt0_hB48_hB76 := hB48.lt
  have hlt0_hB11_hB76 := hB11.lt
  have hsz141 := hEw.size
  refine OW.new (v := (fun nb => .slice (some ⟨nb, 0, none⟩) 3 3)) rfl rfl (r_buildSlice rfl rfl Tryd.underlying28 Tryd.sizeOf32 Tryd.zeroValue32 rfl rfl rfl rfl rfl) ?_
  intro nb76 wv135 hge138 hlt139 hB76 hE136
  replace hB76 : Blk wv135 nb76 _ _ := hB76
  have hS137 := hS134.ext hE136
  have hA142 := Ext.trans hE133 hE136
  refine OW.next hS137 ?_
  refine AH.oneG 24 rfl (by kernel_rfl) rfl rfl rfl rfl rfl ?_
  refine OW.call rfl rfl (rc_func rfl rfl Tryd.call11) (SameRefs_yes _ [⟨⟨#[97]⟩, 0⟩, ⟨⟨#[97]⟩, 1⟩, ⟨⟨#[98]⟩, 2⟩] Ar _ cr _ (World.heap wv135).size _ ((hRf.ext hA142).mono hA142.size) (RfAt.blk hB76 hB76.lt) (Nat.le_refl _) (of_decide_eq_true (by kernel_rfl)) (by kernel_rfl)) ?_
  rintro _ wv143 ⟨rfl, hE144⟩
  refine .inl ⟨_, rfl, ?_⟩
  replace hB76 := hB76.ext hE144
  have hS145 := hS137.ext hE144
  have hA146 := Ext.trans hA142 hE144
  refine OW.next hS145 ?_
  refine AH.take 25 rfl (by kernel_rfl) (by kernel_rfl) (by kernel_rfl) PanOk.fn rfl rfl rfl hS145 (fun w' hS => r_pick_t rfl rfl rfl) ?_
  refine AH.take 26 rfl (by kernel_rfl) (by kernel_rfl) (by kernel_rfl) PanOk.fn rfl rfl rfl hS145 (fun w' hS => r_move rfl rfl) ?_
  refine AH.takeG 27 rfl (by kernel_rfl) (by kernel_rfl) (by kernel_rfl) PanOk.fn rfl rfl rfl rfl rfl rfl rfl hS145 (fun w' hS => r_loadAgg rfl rfl Tryd.isAgg25 Tryd.sizeOf25 rfl (by first | exact (fun j v hv => hS.cell (hB11.cells j v hv) id) | exact (fun j v hv => hS.cell (hB48.cells j v hv) id) | exact (fun j v hv => hS.cell (hB42.cells j v hv) id) | exact (fun j v hv => hS.cell (hB40.cells j v hv) id) | exact (fun j v hv => hS.cell (hB38.cells j v hv) id) | exact (fun j v hv => hS.cell (hB36.cells j v hv) id) | exact (fun j v hv => hS.cell (hB23.cells j v hv) id) | exact (fun j v hv => hS.cell (hB4.cells j v hv) id) | exact (fun j v hv => hS.cell (hB3.cells j v hv) id) | exact (fun j v hv => hS.cell (hB2.cells j v hv) id) | exact (fun j v hv => hS.cell (hB1.cells j v hv) id) | assumption)) ?_
  refine AH.takeG 28 rfl (by kernel_rfl) (by kernel_rfl) (by kernel_rfl) PanOk.fn rfl rfl rfl rfl rfl rfl rfl hS145 (fun w' hS => r_loadAgg rfl rfl Tryd.isAgg25 Tryd.sizeOf25 rfl (by first | exact (fun j v hv => hS.cell (hB11.cells j v hv) id) | exact (fun j v hv => hS.cell (hB48.cells j v hv) id) | exact (fun j v hv => hS.cell (hB42.cells j v hv) id) | exact (fun j v hv => hS.cell (hB40.cells j v hv) id) | exact (fun j v hv => hS.cell (hB38.cells j v hv) id) | exact (fun j v hv => hS.cell (hB36.cells j v hv) id) | exact (fun j v hv => hS.cell (hB23.cells j v hv) id) | exact (fun j v hv => hS.cell (hB4.cells j v hv) id) | exact (fun j v hv => hS.cell (hB3.cells j v hv) id) | exact (fun j v hv => hS.cell (hB2.cells j v hv) id) | exact (fun j v hv => hS.cell (hB1.cells j v hv) id) | assumption)) ?_
  refine AH.takeG 29 rfl (by kernel_rfl) (by kernel_rfl) (by kernel_rfl) PanOk.fn rfl rfl rfl rfl rfl rfl rfl hS145 (fun w' hS => r_loadAgg rfl rfl Tryd.isAgg25 Tryd.sizeOf25 rfl (by first | exact (fun j v hv => hS.cell (hB11.cells j v hv) id) | exact (fun j v hv => hS.cell (hB48.cells j v hv) id) | exact (fun j v hv => hS.cell (hB42.cells j v hv) id) | exact (fun j v hv => hS.cell (hB40.cells j v hv) id) | exact (fun j v hv => hS.cell (hB38.cells j v hv) id) | exact (fun j v hv => hS.cell (hB36.cells j v hv) id) | exact (fun j v hv => hS.cell (hB23.cells j v hv) id) | exact (fun j v hv => hS.cell (hB4.cells j v hv) id) | exact (fun j v hv => hS.cell (hB3.cells j v hv) id) | exact (fun j v hv => hS.cell (hB2.cells j v hv) id) | exact (fun j v hv => hS.cell (hB1.cells j v hv) id) | assumption)) ?_
  refine AH.oneG 30 rfl (by kernel_rfl) rfl rfl rfl rfl rfl ?_
  have hsz152 := hS145.size
  have hlt0_hB1_hB83 := hB1.lt
  have hlt0_hB2_hB83 := hB2.lt
  have hlt0_hB3_hB83 := hB3.lt
  have hlt0_hB4_hB83 := hB4.lt
  have hlt0_hB23_hB83 := hB23.lt
  have hlt0_hB36_hB83 := hB36.lt
  have hlt0_hB38_hB83 := hB38.lt
  have hlt0_hB40_hB83 := hB40.lt
  have hlt0_hB42_hB83 := hB42.lt
  have hlt0_hB48_hB83 := hB48.lt
  have hlt0_hB11_hB83 := hB11.lt
  have hsz153 := hEw.size
  refine OW.new (v := (fun nb => .slice (some ⟨nb, 0, none⟩) 2 2)) rfl rfl (r_buildSlice rfl rfl Tryd.underlying23 Tryd.sizeOf25 Tryd.zeroValue25 rfl rfl rfl rfl rfl) ?_
  intro nb83 wv147 hge150 hlt151 hB83 hE148
  have hlt_hB76_hB83 := Nat.lt_of_lt_of_le hB76.lt hge150
  replace hB76 := hB76.ext hE148
  replace hB83 : Blk wv147 nb83 _ _ := hB83
  have hS149 := hS145.ext hE148
  have hA154 := Ext.trans hA146 hE148
  refine OW.next hS149 ?_
  refine AH.oneG 31 rfl (by kernel_rfl) rfl rfl rfl rfl rfl ?_
  refine OW.call rfl rfl (rc_func rfl rfl Tryd.call10) (of_spec _ _ _ _ _) ?_
  rintro _ wv155 ⟨rfl, hE156⟩
  refine .inl ⟨_, rfl, ?_⟩
  replace hB76 := hB76.ext hE156
  replace hB83 := hB83.ext hE156
  have hS157 := hS149.ext hE156
  have hA158 := Ext.trans hA154 hE156
  refine OW.next hS157 ?_
  refine AH.oneG 32 rfl (by kernel_rfl) rfl rfl rfl rfl rfl ?_
  have hsz164 := hS157.size
  have hlt0_hB1_hB85 := hB1.lt
  have hlt0_hB2_hB85 := hB2.lt
  have hlt0_hB3_hB85 := hB3.lt
  have hlt0_hB4_hB85 := hB4.lt
  have hlt0_hB23_hB85 := hB23.lt
  have hlt0_hB36_hB85 := hB36.lt
  have hlt0_hB38_hB85 := hB38.lt
  have hlt0_hB40_hB85 := hB40.lt
  have hlt0_hB42_hB85 := hB42.lt
  have hlt0_hB48_hB85 := hB48.lt
  have hlt0_hB11_hB85 := hB11.lt
  have hsz165 := hEw.size
  refine OW.new (v := (fun nb => .slice (some ⟨nb, 0, none⟩) 2 2)) rfl rfl (r_buildSlice rfl rfl Tryd.underlying23 Tryd.sizeOf25 Tryd.zeroValue25 rfl rfl rfl rfl rfl) ?_
  intro nb85 wv159 hge162 hlt163 hB85 hE160
  have hlt_hB76_hB85 := Nat.lt_of_lt_of_le hB76.lt hge162
  have hlt_hB83_hB85 := Nat.lt_of_lt_of_le hB83.lt hge162
  replace hB76 := hB76.ext hE160
  replace hB83 := hB83.ext hE160
  replace hB85 : Blk wv159 nb85 _ _ := hB85
  have hS161 := hS157.ext hE160
  have hA166 := Ext.trans hA158 hE160
  refine OW.next hS161 ?_
  refine AH.oneG 33 rfl (by kernel_rfl) rfl rfl rfl rfl rfl ?_
  refine OW.call rfl rfl (rc_func rfl rfl Tryd.call10) (of_spec _ _ _ _ _) ?_
  rintro _ wv167 ⟨rfl, hE168⟩
  refine .inl ⟨_, rfl, ?_⟩
  replace hB76 := hB76.ext hE168
  replace hB83 := hB83.ext hE168
  replace hB85 := hB85.ext hE168
  have hS169 := hS161.ext hE168
  have hA170 := Ext.trans hA166 hE168
  refine OW.next hS169 ?_
  refine AH.oneG 34 rfl (by kernel_rfl) rfl rfl rfl rfl rfl ?_
  refine OW.call rfl rfl (rc_func rfl rfl Tryd.call19) (is_yes 200 _ (by decide) (.mk 18 0 ⟨#[]⟩ [(nameE ⟨#[97]⟩), (.mk 18 0 ⟨#[]⟩ [(nameE ⟨#[98]⟩), (nameE ⟨#[99]⟩)])]) _ _ _ _ (Tr.mk2 hB85 (Blk.lt hB85) (.nil (by decide)) (Tr.mk2 hB83 (Blk.lt hB83) (.nil (by decide)) (.nil (by decide)))) (Nat.le_refl _) (hG.ext hA170) (by kernel_rfl)) ?_
  rintro _ wv171 ⟨rfl, hE172⟩
  refine .inl ⟨_, rfl, ?_⟩
  replace hB76 := hB76.ext hE172
  replace hB83 := hB83.ext hE172
  replace hB85 := hB85.ext hE172
  have hS173 := hS169.ext hE172
  have hA174 := Ext.trans hA170 hE172
  refine OW.next hS173 ?_
  refine AH.take 35 rfl (by kernel_rfl) (by kernel_rfl) (by kernel_rfl) PanOk.fn rfl rfl rfl hS173 (fun w' hS => r_pick_t rfl rfl rfl) ?_
  refine AH.take 36 rfl (by kernel_rfl) (by kernel_rfl) (by kernel_rfl) PanOk.fn rfl rfl rfl hS173 (fun w' hS => r_move rfl rfl) ?_
  refine AH.takeG 37 rfl (by kernel_rfl) (by kernel_rfl) (by kernel_rfl) PanOk.fn rfl rfl rfl rfl rfl rfl rfl hS173 (fun w' hS => r_loadAgg rfl rfl Tryd.isAgg25 Tryd.sizeOf25 rfl (by first | exact (fun j v hv => hS.cell (hB11.cells j v hv) id) | exact (fun j v hv => hS.cell (hB48.cells j v hv) id) | exact (fun j v hv => hS.cell (hB42.cells j v hv) id) | exact (fun j v hv => hS.cell (hB40.cells j v hv) id) | exact (fun j v hv => hS.cell (hB38.cells j v hv) id) | exact (fun j v hv => hS.cell (hB36.cells j v hv) id) | exact (fun j v hv => hS.cell (hB23.cells j v hv) id) | exact (fun j v hv => hS.cell (hB4.cells j v hv) id) | exact (fun j v hv => hS.cell (hB3.cells j v hv) id) | exact (fun j v hv => hS.cell (hB2.cells j v hv) id) | exact (fun j v hv => hS.cell (hB1.cells j v hv) id) | assumption)) ?_
  refine AH.takeG 38 rfl (by kernel_rfl) (by kernel_rfl) (by kernel_rfl) PanOk.fn rfl rfl rfl rfl rfl rfl rfl hS173 (fun w' hS => r_loadAgg rfl rfl Tryd.isAgg25 Tryd.sizeOf25 rfl (by first | exact (fun j v hv => hS.cell (hB11.cells j v hv) id) | exact (fun j v hv => hS.cell (hB48.cells j v hv) id) | exact (fun j v hv => hS.cell (hB42.cells j v hv) id) | exact (fun j v hv => hS.cell (hB40.cells j v hv) id) | exact (fun j v hv => hS.cell (hB38.cells j v hv) id) | exact (fun j v hv => hS.cell (hB36.cells j v hv) id) | exact (fun j v hv => hS.cell (hB23.cells j v hv) id) | exact (fun j v hv => hS.cell (hB4.cells j v hv) id) | exact (fun j v hv => hS.cell (hB3.cells j v hv) id) | exact (fun j v hv => hS.cell (hB2.cells j v hv) id) | exact (fun j v hv => hS.cell (hB1.cells j v hv) id) | assumption)) ?_
  refine AH.takeG 41 rfl (by kernel_rfl) (by kernel_rfl) (by kernel_rfl) PanOk.fn rfl rfl rfl rfl rfl rfl rfl hS173 (fun w' hS => r_loadAgg rfl rfl Tryd.isAgg25 Tryd.sizeOf25 rfl (by first | exact (fun j v hv => hS.cell (hB11.cells j v hv) id) | exact (fun j v hv => hS.cell (hB48.cells j v hv) id) | exact (fun j v hv => hS.cell (hB42.cells j v hv) id) | exact (fun j v hv => hS.cell (hB40.cells j v hv) id) | exact (fun j v hv => hS.cell (hB38.cells j v hv) id) | exact (fun j v hv => hS.cell (hB36.cells j v hv) id) | exact (fun j v hv => hS.cell (hB23.cells j v hv) id) | exact (fun j v hv => hS.cell (hB4.cells j v hv) id) | exact (fun j v hv => hS.cell (hB3.cells j v hv) id) | exact (fun j v hv => hS.cell (hB2.cells j v hv) id) | exact (fun j v hv => hS.cell (hB1.cells j v hv) id) | assumption)) ?_
  refine AH.oneG 39 rfl (by kernel_rfl) rfl rfl rfl rfl rfl ?_
  have hsz180 := hS173.size
  have hlt0_hB1_hB92 := hB1.lt
  have hlt0_hB2_hB92 := hB2.lt
  have hlt0_hB3_hB92 := hB3.lt
  have hlt0_hB4_hB92 := hB4.lt
  have hlt0_hB23_hB92 := hB23.lt
  have hlt0_hB36_hB92 := hB36.lt
  have hlt0_hB38_hB92 := hB38.lt
  have hlt0_hB40_hB92 := hB40.lt
  have hlt0_hB42_hB92 := hB42.lt
  have hlt0_hB48_hB92 := hB48.lt
  have hlt0_hB11_hB92 := hB11.lt
  have hsz181 := hEw.size
  refine OW.new (v := (fun nb => .slice (some ⟨nb, 0, none⟩) 2 2)) rfl rfl (r_buildSlice rfl rfl Tryd.underlying23 Tryd.sizeOf25 Tryd.zeroValue25 rfl rfl rfl rfl rfl) ?_
  intro nb92 wv175 hge178 hlt179 hB92 hE176
  have hlt_hB76_hB92 := Nat.lt_of_lt_of_le hB76.lt hge178
  have hlt_hB83_hB92 := Nat.lt_of_lt_of_le hB83.lt hge178
  have hlt_hB85_hB92 := Nat.lt_of_lt_of_le hB85.lt hge178
  replace hB76 := hB76.ext hE176
  replace hB83 := hB83.ext hE176
  replace hB85 := hB85.ext hE176
  replace hB92 : Blk wv175 nb92 _ _ := hB92
  have hS177 := hS173.ext hE176
  have hA182 := Ext.trans hA174 hE176
  refine OW.next hS177 ?_
  refine AH.oneG 40 rfl (by kernel_rfl) rfl rfl rfl rfl rfl ?_
  refine OW.call rfl rfl (rc_func rfl rfl Tryd.call10) (of_spec _ _ _ _ _) ?_
  rintro _ wv183 ⟨rfl, hE184⟩
  refine .inl ⟨_, rfl, ?_⟩
  replace hB76 := hB76.ext hE184
  replace hB83 := hB83.ext hE184
  replace hB85 := hB85.ext hE184
  replace hB92 := hB92.ext hE184
  have hS185 := hS177.ext hE184
  have hA186 := Ext.trans hA182 hE184
  refine OW.next hS185 ?_
  refine AH.oneG 42 rfl (by kernel_rfl) rfl rfl rfl rfl rfl ?_
  have hsz192 := hS185.size
  have hlt0_hB1_hB95 := hB1.lt
  have hlt0_hB2_hB95 := hB2.lt
  have hlt0_hB3_hB95 := hB3.lt
  have hlt0_hB4_hB95 := hB4.lt
  have hlt0_hB23_hB95 := hB23.lt
  have hlt0_hB36_hB95 := hB36.lt
  have hlt0_hB38_hB95 := hB38.lt
  have hlt0_hB40_hB95 := hB40.lt
  have hlt0_hB42_hB95 := hB42.lt
  have hlt0_hB48_hB95 := hB48.lt
  have hlt0_hB11_hB95 := hB11.lt
  have hsz193 := hEw.size
  refine OW.new (v := (fun nb => .slice (some ⟨nb, 0, none⟩) 2 2)) rfl rfl (r_buildSlice rfl rfl Tryd.underlying23 Tryd.sizeOf25 Tryd.zeroValue25 rfl rfl rfl rfl rfl) ?_
  intro nb95 wv187 hge190 hlt191 hB95 hE188
  have hlt_hB76_hB95 := Nat.lt_of_lt_of_le hB76.lt hge190
  have hlt_hB83_hB95 := Nat.lt_of_lt_of_le hB83.lt hge190
  have hlt_hB85_hB95 := Nat.lt_of_lt_of_le hB85.lt hge190
  have hlt_hB92_hB95 := Nat.lt_of_lt_of_le hB92.lt hge190
  replace hB76 := hB76.ext hE188
  replace hB83 := hB83.ext hE188
  replace hB85 := hB85.ext hE188
  replace hB92 := hB92.ext hE188
  replace hB95 : Blk wv187 nb95 _ _ := hB95
  have hS189 := hS185.ext hE188
  have hA194 := Ext.trans hA186 hE188
  refine OW.next hS189 ?_
  refine AH.oneG 43 rfl (by kernel_rfl) rfl rfl rfl rfl rfl ?_
  refine OW.call rfl rfl (rc_func rfl rfl Tryd.call10) (of_spec _ _ _ _ _) ?_
  rintro _ wv195 ⟨rfl, hE196⟩
  refine .inl ⟨_, rfl, ?_⟩
  replace hB76 := hB76.ext hE196
  replace hB83 := hB83.ext hE196
  replace hB85 := hB85.ext hE196
  replace hB92 := hB92.ext hE196
  replace hB95 := hB95.ext hE196
  have hS197 := hS189.ext hE196
  have hA198 := Ext.trans hA194 hE196
  refine OW.next hS197 ?_
  refine AH.oneG 44 rfl (by kernel_rfl) rfl rfl rfl rfl rfl ?_
  refine OW.call rfl rfl (rc_func rfl rfl Tryd.call19) (is_yes 200 _ (by decide) (.mk 7 0 ⟨#[]⟩ [(.mk 7 0 ⟨#[]⟩ [(nameE ⟨#[97]⟩), (nameE ⟨#[98]⟩)]), (nameE ⟨#[99]⟩)]) _ _ _ _ (Tr.mk2 hB95 (Blk.lt hB95) (Tr.mk2 hB92 (Blk.lt hB92) (.nil (by decide)) (.nil (by decide))) (.nil (by decide))) (Nat.le_refl _) (hG.ext hA198) (by kernel_rfl)) ?_
  rintro _ wv199 ⟨rfl, hE200⟩
  refine .inl ⟨_, rfl, ?_⟩
  replace hB76 := hB76.ext hE200
  replace hB83 := hB83.ext hE200
  replace hB85 := hB85.ext hE200
  replace hB92 := hB92.ext hE200
  replace hB95 := hB95.ext hE200
  have hS201 := hS197.ext hE200
  have hA202 := Ext.trans hA198 hE200
  refine OW.next hS201 ?_
  refine AH.take 45 rfl (by kernel_rfl) (by kernel_rfl) (by kernel_rfl) PanOk.fn rfl rfl rfl hS201 (fun w' hS => r_pick_t rfl rfl rfl) ?_
  refine AH.take 46 rfl (by kernel_rfl) (by kernel_rfl) (by kernel_rfl) PanOk.fn rfl rfl rfl hS201 (fun w' hS => r_move rfl rfl) ?_
  refine AH.takeG 47 rfl (by kernel_rfl) (by kernel_rfl) (by kernel_rfl) PanOk.fn rfl rfl rfl rfl rfl rfl rfl hS201 (fun w' hS => r_loadAgg rfl rfl Tryd.isAgg25 Tryd.sizeOf25 rfl (by first | exact (fun j v hv => hS.cell (hB11.cells j v hv) id) | exact (fun j v hv => hS.cell (hB48.cells j v hv) id) | exact (fun j v hv => hS.cell (hB42.cells j v hv) id) | exact (fun j v hv => hS.cell (hB40.cells j v hv) id) | exact (fun j v hv => hS.cell (hB38.cells j v hv) id) | exact (fun j v hv => hS.cell (hB36.cells j v hv) id) | exact (fun j v hv => hS.cell (hB23.cells j v hv) id) | exact (fun j v hv => hS.cell (hB4.cells j v hv) id) | exact (fun j v hv => hS.cell (hB3.cells j v hv) id) | exact (fun j v hv => hS.cell (hB2.cells j v hv) id) | exact (fun j v hv => hS.cell (hB1.cells j v hv) id) | assumption)) ?_
  refine AH.oneG 48 rfl (by kernel_rfl) rfl rfl rfl rfl rfl ?_
  have hsz208 := hS201.size
  have hlt0_hB1_hB101 := hB1.lt
  have hlt0_hB2_hB101 := hB2.lt
  have hlt0_hB3_hB101 := hB3.lt
  have hlt0_hB4_hB101 := hB4.lt
  have hlt0_hB23_hB101 := hB23.lt
  have hlt0_hB36_hB101 := hB36.lt
  have hlt0_hB38_hB101 := hB38.lt
  have hlt0_hB40_hB101 := hB40.lt
  have hlt0_hB42_hB101 := hB42.lt
  have hlt0_hB48_hB101 := hB48.lt
  have hlt0_hB11_hB101 := hB11.lt
  have hsz209 := hEw.size
  refine OW.new (v := (fun nb => .slice (some ⟨nb, 0, none⟩) 1 1)) rfl rfl (r_buildSlice rfl rfl Tryd.underlying23 Tryd.sizeOf25 Tryd.zeroValue25 rfl rfl rfl rfl rfl) ?_
  intro nb101 wv203 hge206 hlt207 hB101 hE204
  have hlt_hB76_hB101 := Nat.lt_of_lt_of_le hB76.lt hge206
  have hlt_hB83_hB101 := Nat.lt_of_lt_of_le hB83.lt hge206
  have hlt_hB85_hB101 := Nat.lt_of_lt_of_le hB85.lt hge206
  have hlt_hB92_hB101 := Nat.lt_of_lt_of_le hB92.lt hge206
  have hlt_hB95_hB101 := Nat.lt_of_lt_of_le hB95.lt hge206
  replace hB76 := hB76.ext hE204
  replace hB83 := hB83.ext hE204
  replace hB85 := hB85.ext hE204
  replace hB92 := hB92.ext hE204
  replace hB95 := hB95.ext hE204
  replace hB101 : Blk wv203 nb101 _ _ := hB101
  have hS205 := hS201.ext hE204
  have hA210 := Ext.trans hA202 hE204
  refine OW.next hS205 ?_
  refine AH.oneG 49 rfl (by kernel_rfl) rfl rfl rfl rfl rfl ?_
  refine OW.call rfl rfl (rc_func rfl rfl Tryd.call10) (of_spec _ _ _ _ _) ?_
  rintro _ wv211 ⟨rfl, hE212⟩
  refine .inl ⟨_, rfl, ?_⟩
  replace hB76 := hB76.ext hE212
  replace hB83 := hB83.ext hE212
  replace hB85 := hB85.ext hE212
  replace hB92 := hB92.ext hE212
  replace hB95 := hB95.ext hE212
  replace hB101 := hB101.ext hE212
  have hS213 := hS205.ext hE212
  have hA214 := Ext.trans hA210 hE212
  refine OW.next hS213 ?_
  refine AH.oneG 50 rfl (by kernel_rfl) rfl rfl rfl rfl rfl ?_
  have hsz220 := hS213.size
  have hlt0_hB1_hB103 := hB1.lt
  have hlt0_hB2_hB103 := hB2.lt
  have hlt0_hB3_hB103 := hB3.lt
  have hlt0_hB4_hB103 := hB4.lt
  have hlt0_hB23_hB103 := hB23.lt
  have hlt0_hB36_hB103 := hB36.lt
  have hlt0_hB38_hB103 := hB38.lt
  have hlt0_hB40_hB103 := hB40.lt
  have hlt0_hB42_hB103 := hB42.lt
  have hlt0_hB48_hB103 := hB48.lt
  have hlt0_hB11_hB103 := hB11.lt
  have hsz221 := hEw.size
  refine OW.new (v := (fun nb => .slice (some ⟨nb, 0, none⟩) 1 1)) rfl rfl (r_buildSlice rfl rfl Tryd.underlying23 Tryd.sizeOf25 Tryd.zeroValue25 rfl rfl rfl rfl rfl) ?_
  intro nb103 wv215 hge218 hlt219 hB103 hE216
  have hlt_hB76_hB103 := Nat.lt_of_lt_of_le hB76.lt hge218
  have hlt_hB83_hB103 := Nat.lt_of_lt_of_le hB83.lt hge218
  have hlt_hB85_hB103 := Nat.lt_of_lt_of_le hB85.lt hge218
  have hlt_hB92_hB103 := Nat.lt_of_lt_of_le hB92.lt hge218
  have hlt_hB95_hB103 := Nat.lt_of_lt_of_le hB95.lt hge218
  have hlt_hB101_hB103 := Nat.lt_of_lt_of_le hB101.lt hge218
  replace hB76 := hB76.ext hE216
  replace hB83 := hB83.ext hE216
  replace hB85 := hB85.ext hE216
  replace hB92 := hB92.ext hE216
  replace hB95 := hB95.ext hE216
  replace hB101 := hB101.ext hE216
  replace hB103 : Blk wv215 nb103 _ _ := hB103
  have hS217 := hS213.ext hE216
  have hA222 := Ext.trans hA214 hE216
  refine OW.next hS217 ?_
  refine AH.oneG 51 rfl (by kernel_rfl) rfl rfl rfl rfl rfl ?_
  refine OW.call rfl rfl (rc_func rfl rfl Tryd.call10) (of_spec _ _ _ _ _) ?_
  rintro _ wv223 ⟨rfl, hE224⟩
  refine .inl ⟨_, rfl, ?_⟩
  replace hB76 := hB76.ext hE224
  replace hB83 := hB83.ext hE224
  replace hB85 := hB85.ext hE224
  replace hB92 := hB92.ext hE224
  replace hB95 := hB95.ext hE224
  replace hB101 := hB101.ext hE224
  replace hB103 := hB103.ext hE224
  have hS225 := hS217.ext hE224
  have hA226 := Ext.trans hA222 hE224
  refine OW.next hS225 ?_
  refine AH.oneG 52 rfl (by kernel_rfl) rfl rfl rfl rfl rfl ?_
  refine OW.call rfl rfl (rc_func rfl rfl Tryd.call19) (is_yes 200 _ (by decide) (.mk 4 0 ⟨#[]⟩ [(.mk 4 0 ⟨#[]⟩ [(nameE ⟨#[97]⟩)])]) _ _ _ _ (Tr.mk1 hB103 (Blk.lt hB103) (Tr.mk1 hB101 (Blk.lt hB101) (.nil (by decide)))) (Nat.le_refl _) (hG.ext hA226) (by kernel_rfl)) ?_
  rintro _ wv227 ⟨rfl, hE228⟩
  refine .inl ⟨_, rfl, ?_⟩
  replace hB76 := hB76.ext hE228
  replace hB83 := hB83.ext hE228
  replace hB85 := hB85.ext hE228
  replace hB92 := hB92.ext hE228
  replace hB95 := hB95.ext hE228
  replace hB101 := hB101.ext hE228
  replace hB103 := hB103.ext hE228
  have hS229 := hS225.ext hE228
  have hA230 := Ext.trans hA226 hE228
  refine OW.next hS229 ?_
  refine AH.take 53 rfl (by kernel_rfl) (by kernel_rfl) (by kernel_rfl) PanOk.fn rfl rfl rfl hS229 (fun w' hS => r_pick_t rfl rfl rfl) ?_
  refine AH.take 54 rfl (by kernel_rfl) (by kernel_rfl) (by kernel_rfl) PanOk.fn rfl rfl rfl hS229 (fun w' hS => r_move rfl rfl) ?_
  refine AH.takeG 55 rfl (by kernel_rfl) (by kernel_rfl) (by kernel_rfl) PanOk.fn rfl rfl rfl rfl rfl rfl rfl hS229 (fun w' hS => r_loadAgg rfl rfl Tryd.isAgg25 Tryd.sizeOf25 rfl (by first | exact (fun j v hv => hS.cell (hB11.cells j v hv) id) | exact (fun j v hv => hS.cell (hB48.cells j v hv) id) | exact (fun j v hv => hS.cell (hB42.cells j v hv) id) | exact (fun j v hv => hS.cell (hB40.cells j v hv) id) | exact (fun j v hv => hS.cell (hB38.cells j v hv) id) | exact (fun j v hv => hS.cell (hB36.cells j v hv) id) | exact (fun j v hv => hS.cell (hB23.cells j v hv) id) | exact (fun j v hv => hS.cell (hB4.cells j v hv) id) | exact (fun j v hv => hS.cell (hB3.cells j v hv) id) | exact (fun j v hv => hS.cell (hB2.cells j v hv) id) | exact (fun j v hv => hS.cell (hB1.cells j v hv) id) | assumption)) ?_
  refine AH.takeG 56 rfl (by kernel_rfl) (by kernel_rfl) (by kernel_rfl) PanOk.fn rfl rfl rfl rfl rfl rfl rfl hS229 (fun w' hS => r_loadAgg rfl rfl Tryd.isAgg25 Tryd.sizeOf25 rfl (by first | exact (fun j v hv => hS.cell (hB11.cells j v hv) id) | exact (fun j v hv => hS.cell (hB48.cells j v hv) id) | exact (fun j v hv => hS.cell (hB42.cells j v hv) id) | exact (fun j v hv => hS.cell (hB40.cells j v hv) id) | exact (fun j v hv => hS.cell (hB38.cells j v hv) id) | exact (fun j v hv => hS.cell (hB36.cells j v hv) id) | exact (fun j v hv => hS.cell (hB23.cells j v hv) id) | exact (fun j v hv => hS.cell (hB4.cells j v hv) id) | exact (fun j v hv => hS.cell (hB3.cells j v hv) id) | exact (fun j v hv => hS.cell (hB2.cells j v hv) id) | exact (fun j v hv => hS.cell (hB1.cells j v hv) id) | assumption)) ?_
  refine AH.takeG 57 rfl (by kernel_rfl) (by kernel_rfl) (by kernel_rfl) PanOk.fn rfl rfl rfl rfl rfl rfl rfl hS229 (fun w' hS => r_build (pl := [(0, 1), (1, 1), (2, 1), (3, 1)]) rfl rfl Tryd.underlying25 Tryd.zeroValue25 (fun _ => by kernel_rfl) rfl rfl) ?_
  refine AH.oneG 58 rfl (by kernel_rfl) rfl rfl rfl rfl rfl ?_
  have hsz236 := hS229.size
  have hlt0_hB1_hB111 := hB1.lt
  have hlt0_hB2_hB111 := hB2.lt
  have hlt0_hB3_hB111 := hB3.lt
  have hlt0_hB4_hB111 := hB4.lt
  have hlt0_hB23_hB111 := hB23.lt
  have hlt0_hB36_hB111 := hB36.lt
  have hlt0_hB38_hB111 := hB38.lt
  have hlt0_hB40_hB111 := hB40.lt
  have hlt0_hB42_hB111 := hB42.lt
  have hlt0_hB48_hB111 := hB48.lt
  have hlt0_hB11_hB111 := hB11.lt
  have hsz237 := hEw.size
  refine OW.new (v := (fun nb => .slice (some ⟨nb, 0, none⟩) 2 2)) rfl rfl (r_buildSlice rfl rfl Tryd.underlying23 Tryd.sizeOf25 Tryd.zeroValue25 rfl rfl rfl rfl rfl) ?_
  intro nb111 wv231 hge234 hlt235 hB111 hE232
  have hlt_hB76_hB111 := Nat.lt_of_lt_of_le hB76.lt hge234
  have hlt_hB83_hB111 := Nat.lt_of_lt_of_le hB83.lt hge234
  have hlt_hB85_hB111 := Nat.lt_of_lt_of_le hB85.lt hge234
  have hlt_hB92_hB111 := Nat.lt_of_lt_of_le hB92.lt hge234
  have hlt_hB95_hB111 := Nat.lt_of_lt_of_le hB95.lt hge234
  have hlt_hB101_hB111 := Nat.lt_of_lt_of_le hB101.lt hge234
  have hlt_hB103_hB111 := Nat.lt_of_lt_of_le hB103.lt hge234
  replace hB76 := hB76.ext hE232
  replace hB83 := hB83.ext hE232
  replace hB85 := hB85.ext hE232
  replace hB92 := hB92.ext hE232
  replace hB95 := hB95.ext hE232
  replace hB101 := hB101.ext hE232
  replace hB103 := hB103.ext hE232
  replace hB111 : Blk wv231 nb111 _ _ := hB111
  have hS233 := hS229.ext hE232
  have hA238 := Ext.trans hA230 hE232
  refine OW.next hS233 ?_
  refine AH.oneG 59 rfl (by kernel_rfl) rfl rfl rfl rfl rfl ?_
  refine OW.call rfl rfl (rc_func rfl rfl Tryd.call10) (of_spec _ _ _ _ _) ?_
  rintro _ wv239 ⟨rfl, hE240⟩
  refine .inl ⟨_, rfl, ?_⟩
  replace hB76 := hB76.ext hE240
  replace hB83 := hB83.ext hE240
  replace hB85 := hB85.ext hE240
  replace hB92 := hB92.ext hE240
  replace hB95 := hB95.ext hE240
  replace hB101 := hB101.ext hE240
  replace hB103 := hB103.ext hE240
  replace hB111 := hB111.ext hE240
  have hS241 := hS233.ext hE240
  have hA242 := Ext.trans hA238 hE240
  refine OW.next hS241 ?_
  refine AH.oneG 60 rfl (by kernel_rfl) rfl rfl rfl rfl rfl ?_
  have hsz248 := hS241.size
  have hlt0_hB1_hB113 := hB1.lt
  have hlt0_hB2_hB113 := hB2.lt
  have hlt0_hB3_hB113 := hB3.lt
  have hlt0_hB4_hB113 := hB4.lt
  have hlt0_hB23_hB113 := hB23.lt
  have hlt0_hB36_hB113 := hB36.lt
  have hlt0_hB38_hB113 := hB38.lt
  have hlt0_hB40_hB113 := hB40.lt
  have hlt0_hB42_hB113 := hB42.lt
  have hlt0_hB48_hB113 := hB48.lt
  have hlt0_hB11_hB113 := hB11.lt
  have hsz249 := hEw.size
  refine OW.new (v := (fun nb => .slice (some ⟨nb, 0, none⟩) 2 2)) rfl rfl (r_buildSlice rfl rfl Tryd.underlying23 Tryd.sizeOf25 Tryd.zeroValue25 rfl rfl rfl rfl rfl) ?_
  intro nb113 wv243 hge246 hlt247 hB113 hE244
  have hlt_hB76_hB113 := Nat.lt_of_lt_of_le hB76.lt hge246
  have hlt_hB83_hB113 := Nat.lt_of_lt_of_le hB83.lt hge246
  have hlt_hB85_hB113 := Nat.lt_of_lt_of_le hB85.lt hge246
  have hlt_hB92_hB113 := Nat.lt_of_lt_of_le hB92.lt hge246
  have hlt_hB95_hB113 := Nat.lt_of_lt_of_le hB95.lt hge246
  have hlt_hB101_hB113 := Nat.lt_of_lt_of_le hB101.lt hge246
  have hlt_hB103_hB113 := Nat.lt_of_lt_of_le hB103.lt hge246
  have hlt_hB111_hB113 := Nat.lt_of_lt_of_le hB111.lt hge246
  replace hB76 := hB76.ext hE244
  replace hB83 := hB83.ext hE244
  replace hB85 := hB85.ext hE244
  replace hB92 := hB92.ext hE244
  replace hB95 := hB95.ext hE244
  replace hB101 := hB101.ext hE244
  replace hB103 := hB103.ext hE244
  replace hB111 := hB111.ext hE244
  replace hB113 : Blk wv243 nb113 _ _ := hB113
  have hS245 := hS241.ext hE244
  have hA250 := Ext.trans hA242 hE244
  refine OW.next hS245 ?_
  refine AH.oneG 61 rfl (by kernel_rfl) rfl rfl rfl rfl rfl ?_
  refine OW.call rfl rfl (rc_func rfl rfl Tryd.call10) (of_spec _ _ _ _ _) ?_
  rintro _ wv251 ⟨rfl, hE252⟩
  refine .inl ⟨_, rfl, ?_⟩
  replace hB76 := hB76.ext hE252
  replace hB83 := hB83.ext hE252
  replace hB85 := hB85.ext hE252
  replace hB92 := hB92.ext hE252
  replace hB95 := hB95.ext hE252
  replace hB101 := hB101.ext hE252
  replace hB103 := hB103.ext hE252
  replace hB111 := hB111.ext hE252
  replace hB113 := hB113.ext hE252
  have hS253 := hS245.ext hE252
  have hA254 := Ext.trans hA250 hE252
  refine OW.next hS253 ?_
  refine AH.oneG 62 rfl (by kernel_rfl) rfl rfl rfl rfl rfl ?_
  refine OW.call rfl rfl (rc_func rfl rfl Tryd.call19) (is_yes 200 _ (by decide) (.mk 8 0 ⟨#[]⟩ [(nameE ⟨#[97]⟩), (.mk 6 0 ⟨#[]⟩ [(nameE ⟨#[98]⟩), (.mk 1 (1) ⟨#[]⟩ [])])]) _ _ _ _ (Tr.mk2 hB113 (Blk.lt hB113) (.nil (by decide)) (Tr.mk2 hB111 (Blk.lt hB111) (.nil (by decide)) (.nil (by decide)))) (Nat.le_refl _) (hG.ext hA254) (by kernel_rfl)) ?_
  rintro _ wv255 ⟨rfl, hE256⟩
  refine .inl ⟨_, rfl, ?_⟩
  replace hB76 := hB76.ext hE256
  replace hB83 := hB83.ext hE256
  replace hB85 := hB85.ext hE256
  replace hB92 := hB92.ext hE256
  replace hB95 := hB95.ext hE256
  replace hB101 := hB101.ext hE256
  replace hB103 := hB103.ext hE256
  replace hB111 := hB111.ext hE256
  replace hB113 := hB113.ext hE256
  have hS257 := hS253.ext hE256
  have hA258 := Ext.trans hA254 hE256
  refine OW.next hS257 ?_
  refine AH.take 63 rfl (by kernel_rfl) (by kernel_rfl) (by kernel_rfl) PanOk.fn rfl rfl rfl hS257 (fun w' hS => r_pick_t rfl rfl rfl) ?_
  refine AH.take 64 rfl (by kernel_rfl) (by kernel_rfl) (by kernel_rfl) PanOk.fn rfl rfl rfl hS257 (fun w' hS => r_move rfl rfl) ?_
  refine AH.takeG 65 rfl (by kernel_rfl) (by kernel_rfl) (by kernel_rfl) PanOk.fn rfl rfl rfl rfl rfl rfl rfl hS257 (fun w' hS => r_loadAgg rfl rfl Tryd.isAgg25 Tryd.sizeOf25 rfl (by first | exact (fun j v hv => hS.cell (hB11.cells j v hv) id) | exact (fun j v hv => hS.cell (hB48.cells j v hv) id) | exact (fun j v hv => hS.cell (hB42.cells j v hv) id) | exact (fun j v hv => hS.cell (hB40.cells j v hv) id) | exact (fun j v hv => hS.cell (hB38.cells j v hv) id) | exact (fun j v hv => hS.cell (hB36.cells j v hv) id) | exact (fun j v hv => hS.cell (hB23.cells j v hv) id) | exact (fun j v hv => hS.cell (hB4.cells j v hv) id) | exact (fun j v hv => hS.cell (hB3.cells j v hv) id) | exact (fun j v hv => hS.cell (hB2.cells j v hv) id) | exact (fun j v hv => hS.cell (hB1.cells j v hv) id) | assumption)) ?_
  refine AH.takeG 66 rfl (by kernel_rfl) (by kernel_rfl) (by kernel_rfl) PanOk.fn rfl rfl rfl rfl rfl rfl rfl hS257 (fun w' hS => r_loadAgg rfl rfl Tryd.isAgg25 Tryd.sizeOf25 rfl (by first | exact (fun j v hv => hS.cell (hB11.cells j v hv) id) | exact (fun j v hv => hS.cell (hB48.cells j v hv) id) | exact (fun j v hv => hS.cell (hB42.cells j v hv) id) | exact (fun j v hv => hS.cell (hB40.cells j v hv) id) | exact (fun j v hv => hS.cell (hB38.cells j v hv) id) | exact (fun j v hv => hS.cell (hB36.cells j v hv) id) | exact (fun j v hv => hS.cell (hB23.cells j v hv) id) | exact (fun j v hv => hS.cell (hB4.cells j v hv) id) | exact (fun j v hv => hS.cell (hB3.cells j v hv) id) | exact (fun j v hv => hS.cell (hB2.cells j v hv) id) | exact (fun j v hv => hS.cell (hB1.cells j v hv) id) | assumption)) ?_
  refine AH.takeG 67 rfl (by kernel_rfl) (by kernel_rfl) (by kernel_rfl) PanOk.fn rfl rfl rfl rfl rfl rfl rfl hS257 (fun w' hS => r_loadAgg rfl rfl Tryd.isAgg25 Tryd.sizeOf25 rfl (by first | exact (fun j v hv => hS.cell (hB11.cells j v hv) id) | exact (fun j v hv => hS.cell (hB48.cells j v hv) id) | exact (fun j v hv => hS.cell (hB42.cells j v hv) id) | exact (fun j v hv => hS.cell (hB40.cells j v hv) id) | exact (fun j v hv => hS.cell (hB38.cells j v hv) id) | exact (fun j v hv => hS.cell (hB36.cells j v hv) id) | exact (fun j v hv => hS.cell (hB23.cells j v hv) id) | exact (fun j v hv => hS.cell (hB4.cells j v hv) id) | exact (fun j v hv => hS.cell (hB3.cells j v hv) id) | exact (fun j v hv => hS.cell (hB2.cells j v hv) id) | exact (fun j v hv => hS.cell (hB1.cells j v hv) id) | assumption)) ?_
  refine AH.takeG 68 rfl (by kernel_rfl) (by kernel_rfl) (by kernel_rfl) PanOk.fn rfl rfl rfl rfl rfl rfl rfl hS257 (fun w' hS => r_loadAgg rfl rfl Tryd.isAgg25 Tryd.sizeOf25 rfl (by first | exact (fun j v hv => hS.cell (hB11.cells j v hv) id) | exact (fun j v hv => hS.cell (hB48.cells j v hv) id) | exact (fun j v hv => hS.cell (hB42.cells j v hv) id) | exact (fun j v hv => hS.cell (hB40.cells j v hv) id) | exact (fun j v hv => hS.cell (hB38.cells j v hv) id) | exact (fun j v hv => hS.cell (hB36.cells j v hv) id) | exact (fun j v hv => hS.cell (hB23.cells j v hv) id) | exact (fun j v hv => hS.cell (hB4.cells j v hv) id) | exact (fun j v hv => hS.cell (hB3.cells j v hv) id) | exact (fun j v hv => hS.cell (hB2.cells j v hv) id) | exact (fun j v hv => hS.cell (hB1.cells j v hv) id) | assumption)) ?_
  refine AH.oneG 69 rfl (by kernel_rfl) rfl rfl rfl rfl rfl ?_
  have hsz264 := hS257.size
  have hlt0_hB1_hB122 := hB1.lt
  have hlt0_hB2_hB122 := hB2.lt
  have hlt0_hB3_hB122 := hB3.lt
  have hlt0_hB4_hB122 := hB4.lt
  have hlt0_hB23_hB122 := hB23.lt
  have hlt0_hB36_hB122 := hB36.lt
  have hlt0_hB38_hB122 := hB38.lt
  have hlt0_hB40_hB122 := hB40.lt
  have hlt0_hB42_hB122 := hB42.lt
  have hlt0_hB48_hB122 := hB48.lt
  have hlt0_hB11_hB122 := hB11.lt
  have hsz265 := hEw.size
  refine OW.new (v := (fun nb => .slice (some ⟨nb, 0, none⟩) 2 2)) rfl rfl (r_buildSlice rfl rfl Tryd.underlying23 Tryd.sizeOf25 Tryd.zeroValue25 rfl rfl rfl rfl rfl) ?_
  intro nb122 wv259 hge262 hlt263 hB122 hE260
  have hlt_hB76_hB122 := Nat.lt_of_lt_of_le hB76.lt hge262
  have hlt_hB83_hB122 := Nat.lt_of_lt_of_le hB83.lt hge262
  have hlt_hB85_hB122 := Nat.lt_of_lt_of_le hB85.lt hge262
  have hlt_hB92_hB122 := Nat.lt_of_lt_of_le hB92.lt hge262
  have hlt_hB95_hB122 := Nat.lt_of_lt_of_le hB95.lt hge262
  have hlt_hB101_hB122 := Nat.lt_of_lt_of_le hB101.lt hge262
  have hlt_hB103_hB122 := Nat.lt_of_lt_of_le hB103.lt hge262
  have hlt_hB111_hB122 := Nat.lt_of_lt_of_le hB111.lt hge262
  have hlt_hB113_hB122 := Nat.lt_of_lt_of_le hB113.lt hge262
  replace hB76 := hB76.ext hE260
  replace hB83 := hB83.ext hE260
  replace hB85 := hB85.ext hE260
  replace hB92 := hB92.ext hE260
  replace hB95 := hB95.ext hE260
  replace hB101 := hB101.ext hE260
  replace hB103 := hB103.ext hE260
  replace hB111 := hB111.ext hE260
  replace hB113 := hB113.ext hE260
  replace hB122 : Blk wv259 nb122 _ _ := hB122
  have hS261 := hS257.ext hE260
  have hA266 := Ext.trans hA258 hE260
  refine OW.next hS261 ?_
  refine AH.oneG 70 rfl (by kernel_rfl) rfl rfl rfl rfl rfl ?_
  refine OW.call rfl rfl (rc_func rfl rfl Tryd.call10) (of_spec _ _ _ _ _) ?_
  rintro _ wv267 ⟨rfl, hE268⟩
  refine .inl ⟨_, rfl, ?_⟩
  replace hB76 := hB76.ext hE268
  replace hB83 := hB83.ext hE268
  replace hB85 := hB85.ext hE268
  replace hB92 := hB92.ext hE268
  replace hB95 := hB95.ext hE268
  replace hB101 := hB101.ext hE268
  replace hB103 := hB103.ext hE268
  replace hB111 := hB111.ext hE268
  replace hB113 := hB113.ext hE268
  replace hB122 := hB122.ext hE268
  have hS269 := hS261.ext hE268
  have hA270 := Ext.trans hA266 hE268
  refine OW.next hS269 ?_
  refine AH.oneG 71 rfl (by kernel_rfl) rfl rfl rfl rfl rfl ?_
  have hsz276 := hS269.size
  have hlt0_hB1_hB124 := hB1.lt
  have hlt0_hB2_hB124 := hB2.lt
  have hlt0_hB3_hB124 := hB3.lt
  have hlt0_hB4_hB124 := hB4.lt
  have hlt0_hB23_hB124 := hB23.lt
  have hlt0_hB36_hB124 := hB36.lt
  have hlt0_hB38_hB124 := hB38.lt
  have hlt0_hB40_hB124 := hB40.lt
  have hlt0_hB42_hB124 := hB42.lt
  have hlt0_hB48_hB124 := hB48.lt
  have hlt0_hB11_hB124 := hB11.lt
  have hsz277 := hEw.size
  refine OW.new (v := (fun nb => .slice (some ⟨nb, 0, none⟩) 3 3)) rfl rfl (r_buildSlice rfl rfl Tryd.underlying23 Tryd.sizeOf25 Tryd.zeroValue25 rfl rfl rfl rfl rfl) ?_
  intro nb124 wv271 hge274 hlt275 hB124 hE272
  have hlt_hB76_hB124 := Nat.lt_of_lt_of_le hB76.lt hge274
  have hlt_hB83_hB124 := Nat.lt_of_lt_of_le hB83.lt hge274
  have hlt_hB85_hB124 := Nat.lt_of_lt_of_le hB85.lt hge274
  have hlt_hB92_hB124 := Nat.lt_of_lt_of_le hB92.lt hge274
  have hlt_hB95_hB124 := Nat.lt_of_lt_of_le hB95.lt hge274
  have hlt_hB101_hB124 := Nat.lt_of_lt_of_le hB101.lt hge274
  have hlt_hB103_hB124 := Nat.lt_of_lt_of_le hB103.lt hge274
  have hlt_hB111_hB124 := Nat.lt_of_lt_of_le hB111.lt hge274
  have hlt_hB113_hB124 := Nat.lt_of_lt_of_le hB113.lt hge274
  have hlt_hB122_hB124 := Nat.lt_of_lt_of_le hB122.lt hge274
  replace hB76 := hB76.ext hE272
  replace hB83 := hB83.ext hE272
  replace hB85 := hB85.ext hE272
  replace hB92 := hB92.ext hE272
  replace hB95 := hB95.ext hE272
  replace hB101 := hB101.ext hE272
  replace hB103 := hB103.ext hE272
  replace hB111 := hB111.ext hE272
  replace hB113 := hB113.ext hE272
  replace hB122 := hB122.ext hE272
  replace hB124 : Blk wv271 nb124 _ _ := hB124
  have hS273 := hS269.ext hE272
  have hA278 := Ext.trans hA270 hE272
  refine OW.next hS273 ?_
  refine AH.oneG 72 rfl (by kernel_rfl) rfl rfl rfl rfl rfl ?_
  refine OW.call rfl rfl (rc_func rfl rfl Tryd.call10) (of_spec _ _ _ _ _) ?_
  rintro _ wv279 ⟨rfl, hE280⟩
  refine .inl ⟨_, rfl, ?_⟩
  replace hB76 := hB76.ext hE280
  replace hB83 := hB83.ext hE280
  replace hB85 := hB85.ext hE280
  replace hB92 := hB92.ext hE280
  replace hB95 := hB95.ext hE280
  replace hB101 := hB101.ext hE280
  replace hB103 := hB103.ext hE280
  replace hB111 := hB111.ext hE280
  replace hB113 := hB113.ext hE280
  replace hB122 := hB122.ext hE280
  replace hB124 := hB124.ext hE280
  have hS281 := hS273.ext hE280
  have hA282 := Ext.trans hA278 hE280
  refine OW.next hS281 ?_
  refine AH.oneG 73 rfl (by kernel_rfl) rfl rfl rfl rfl rfl ?_
  refine OW.call rfl rfl (rc_func rfl rfl Tryd.call19) (is_yes 200 _ (by decide) (.mk 17 0 ⟨#[]⟩ [(nameE ⟨#[97]⟩), (nameE ⟨#[98]⟩), (.mk 18 0 ⟨#[]⟩ [(nameE ⟨#[99]⟩), (nameE ⟨#[97]⟩)])]) _ _ _ _ (Tr.mk3 hB124 (Blk.lt hB124) (.nil (by decide)) (.nil (by decide)) (Tr.mk2 hB122 (Blk.lt hB122) (.nil (by decide)) (.nil (by decide)))) (Nat.le_refl _) (hG.ext hA282) (by kernel_rfl)) ?_
  rintro _ wv283 ⟨rfl, hE284⟩
  refine .inl ⟨_, rfl, ?_⟩
  replace hB76 := hB76.ext hE284
  replace hB83 := hB83.ext hE284
  replace hB85 := hB85.ext hE284
  replace hB92 := hB92.ext hE284
  replace hB95 := hB95.ext hE284
  replace hB101 := hB101.ext hE284
  replace hB103 := hB103.ext hE284
  replace hB111 := hB111.ext hE284
  replace hB113 := hB113.ext hE284
  replace hB122 := hB122.ext hE284
  replace hB124 := hB124.ext hE284
  have hS285 := hS281.ext hE284
  have hA286 := Ext.trans hA282 hE284
  refine OW.next hS285 ?_
  refine AH.take 74 rfl (by kernel_rfl) (by kernel_rfl) (by kernel_rfl) PanOk.fn rfl rfl rfl hS285 (fun w' hS => r_pick_t rfl rfl rfl) ?_
  refine AH.take 75 rfl (by kernel_rfl) (by kernel_rfl) (by kernel_rfl) PanOk.fn rfl rfl rfl hS285 (fun w' hS => r_assign rfl rfl) ?_
  refine AH.done (by kernel_rfl) ?_
  replace hG := hG.ext hS285
  replace hB1 := hB1.ext hS285
  replace hB2 := hB2.ext hS285
  replace hB3 := hB3.ext hS285
  replace hB4 := hB4.ext hS285
  replace hB23 := hB23.ext hS285
  replace hB36 := hB36.ext hS285
  replace hB38 := hB38.ext hS285
  replace hB40 := hB40.ext hS285
  replace hB42 := hB42.ext hS285
  replace hO := hO.ext hS285
  replace hB48 := hB48.ext hS285
  replace hB11 := hB11.ext hS285
  replace hRf := hRf.ext hS285
  replace hEw := hEw.ext hS285
  refine C.code ?_
  refine W.ret ?_
  refine C.ret1 Tryd.results7 rfl ?_
  exact ⟨rfl, hEw⟩


end Go.Proofs.YtclokcmgigdjlaaDoor
