/- Printed by this session's own program out of the translation, and by hand. -/
import Derived.Test.YtclokcmgigdjlaaDoorB
import Derived.Test.YtclokcmgigdjlaaDoorFlM
set_option linter.unusedVariables false
set_option linter.unusedSimpArgs false
set_option maxRecDepth 4000
namespace Go.Proofs.YtclokcmgigdjlaaDoor
open Go.FL Go.RowKit Go.Proofs

theorem chk1_at {i k : Nat} (hi : i < 12) (hk : k < 12) (h : rankK i = 3) (h' : rankK k = 3) : chk1 i k = true := by
  have := chk_at hi hk; unfold chkK at this; rwa [if_pos ⟨h, h'⟩] at this
theorem chk2_at {i k : Nat} (hi : i < 12) (hk : k < 12) (h : ¬ (rankK i = 3 ∧ rankK k = 3)) (h' : rankK k < rankK i ∨ (rankK i = rankK k ∧ 0 < rankK i)) : chk2 i k = true := by
  have := chk_at hi hk; unfold chkK at this; rwa [if_neg h, if_pos h'] at this
theorem chk3_at {i k : Nat} (hi : i < 12) (hk : k < 12) (h : ¬ (rankK i = 3 ∧ rankK k = 3)) (h' : ¬ (rankK k < rankK i ∨ (rankK i = rankK k ∧ 0 < rankK i))) : chk3 i k = true := by
  have := chk_at hi hk; unfold chkK at this; rwa [if_neg h, if_neg h'] at this

/- belfry.belfrylaw05.ExprsRanks -/
set_option maxHeartbeats 4000000 in
theorem ranks_walk (o p : Nat) (ho : o ≤ 255) (hp : p ≤ 255) (w : World) (hG : Gl w) :
    Calls Tryd.prog 6 #[.int .u8 (o : Int), .int .u8 (p : Int)] w fun e w' => e = .returned (.bool true) ∧ Ext w w' := by
  refine calls_of Tryd.func6 rfl Tryd.ntmps6 rfl ?_
  have hEw := Kp.refl (fun _ => False) w
  refine W.seq ?_
  refine W.region ?_
  refine SQ.op rfl rfl rfl (r_assign rfl rfl) ?_
  refine SQ.nil ?_
  refine C.code ?_
  refine W.seq ?_
  refine W.region ?_
  have hsz5 := hEw.size
  refine SQ.new (v := (fun nb => .slice (some ⟨nb, 0, none⟩) 12 12)) rfl rfl rfl (r_buildSlice rfl rfl Tryd.underlying49 Tryd.sizeOf22 Tryd.zeroValue22 rfl rfl rfl rfl rfl) ?_
  intro nb20 wv1 hge2 hlt3 hB20 hE4
  have hge_hG_hB20 := Nat.le_trans hG.size hge2
  replace hG := hG.ext hE4
  replace hEw := hEw.ext hE4
  replace hB20 : Blk wv1 nb20 _ _ := hB20
  refine SQ.op rfl rfl rfl (r_assign rfl rfl) ?_
  refine SQ.nil ?_
  refine C.code ?_
  refine W.seq ?_
  refine W.region ?_
  have hsz10 := hEw.size
  refine SQ.new (v := (fun nb => .slice (some ⟨nb, 0, none⟩) 12 12)) rfl rfl rfl (r_buildSlice rfl rfl Tryd.underlying50 Tryd.sizeOf9 Tryd.zeroValue9 rfl rfl rfl rfl rfl) ?_
  intro nb21 wv6 hge7 hlt8 hB21 hE9
  have hge_hG_hB21 := Nat.le_trans hG.size hge7
  have hlt_hB20_hB21 := Nat.lt_of_lt_of_le hB20.lt hge7
  replace hG := hG.ext hE9
  replace hB20 := hB20.ext hE9
  replace hEw := hEw.ext hE9
  replace hB21 : Blk wv6 nb21 _ _ := hB21
  refine SQ.op rfl rfl rfl (r_assign rfl rfl) ?_
  refine SQ.nil ?_
  refine C.code ?_
  refine W.seq ?_
  refine W.region ?_
  have hsz15 := hEw.size
  refine SQ.new (v := (fun nb => .slice (some ⟨nb, 0, none⟩) 12 12)) rfl rfl rfl (r_buildSlice rfl rfl Tryd.underlying51 Tryd.sizeOf3 Tryd.zeroValue3 rfl rfl rfl rfl rfl) ?_
  intro nb22 wv11 hge12 hlt13 hB22 hE14
  have hge_hG_hB22 := Nat.le_trans hG.size hge12
  have hlt_hB20_hB22 := Nat.lt_of_lt_of_le hB20.lt hge12
  have hlt_hB21_hB22 := Nat.lt_of_lt_of_le hB21.lt hge12
  replace hG := hG.ext hE14
  replace hB20 := hB20.ext hE14
  replace hB21 := hB21.ext hE14
  replace hEw := hEw.ext hE14
  replace hB22 : Blk wv11 nb22 _ _ := hB22
  refine SQ.op rfl rfl rfl (r_assign rfl rfl) ?_
  refine SQ.nil ?_
  refine C.code ?_
  refine W.seq ?_
  refine W.region ?_
  refine SQ.op rfl rfl rfl (r_move rfl rfl) ?_
  refine SQ.op rfl rfl rfl (r_convInt rfl rfl Tryd.underlying5 Tryd.underlying3 (w64 (by omega))) ?_
  refine SQ.op rfl rfl rfl (r_rem rfl rfl rfl (by decide) (tmod12 o)) ?_
  refine SQ.op rfl rfl rfl (r_assign rfl rfl) ?_
  refine SQ.nil ?_
  refine C.code ?_
  refine W.seq ?_
  refine W.region ?_
  refine SQ.op rfl rfl rfl (r_move rfl rfl) ?_
  refine SQ.op rfl rfl rfl (r_convInt rfl rfl Tryd.underlying5 Tryd.underlying3 (w64 (by omega))) ?_
  refine SQ.op rfl rfl rfl (r_rem rfl rfl rfl (by decide) (tmod12 p)) ?_
  refine SQ.op rfl rfl rfl (r_assign rfl rfl) ?_
  refine SQ.nil ?_
  refine C.code ?_
  refine W.seq ?_
  refine W.region ?_
  have hsz16 := hEw.size
  refine SQ.call rfl rfl rfl (rc_func rfl rfl Tryd.call12) (name_spec _ _) ?_
  rintro _ wv17 ⟨rfl, hE18⟩
  refine ⟨_, rfl, ?_⟩
  replace hG := hG.ext hE18
  replace hB20 := hB20.ext hE18
  replace hB21 := hB21.ext hE18
  replace hB22 := hB22.ext hE18
  replace hEw := hEw.ext hE18
  have hsz23 := hEw.size
  refine SQ.new (v := (fun nb => .pointer (some ⟨nb, 0, none⟩))) rfl rfl rfl (r_alloc rfl Tryd.zeroValue25) ?_
  intro nb10 wv19 hge20 hlt21 hB10 hE22
  have hge_hG_hB10 := Nat.le_trans hG.size hge20
  have hlt_hB20_hB10 := Nat.lt_of_lt_of_le hB20.lt hge20
  have hlt_hB21_hB10 := Nat.lt_of_lt_of_le hB21.lt hge20
  have hlt_hB22_hB10 := Nat.lt_of_lt_of_le hB22.lt hge20
  replace hG := hG.ext hE22
  replace hB20 := hB20.ext hE22
  replace hB21 := hB21.ext hE22
  replace hB22 := hB22.ext hE22
  replace hEw := hEw.ext hE22
  replace hB10 : Blk wv19 nb10 _ _ := hB10
  refine SQ.storeA rfl rfl rfl rfl rfl Tryd.sizeOf25 rfl hB10 ⟨rfl, rfl⟩ ?_
  intro wv24 hS26 hK25
  have hsz27 := hK25.size
  replace hG := hG.kp hK25 (by intro b hb hs; omega)
  replace hB20 := hB20.kp hK25 (by omega)
  replace hB21 := hB21.kp hK25 (by omega)
  replace hB22 := hB22.kp hK25 (by omega)
  replace hB10 : Blk wv24 _ _ _ := hS26
  clear hS26
  replace hEw := hEw.new hK25 (by intro b hb; subst hb; omega)
  refine SQ.nil ?_
  refine C.code ?_
  refine W.seq ?_
  refine W.region ?_
  have hsz28 := hEw.size
  refine SQ.call rfl rfl rfl (rc_func rfl rfl Tryd.call12) (name_spec _ _) ?_
  rintro _ wv29 ⟨rfl, hE30⟩
  refine ⟨_, rfl, ?_⟩
  replace hG := hG.ext hE30
  replace hB20 := hB20.ext hE30
  replace hB21 := hB21.ext hE30
  replace hB22 := hB22.ext hE30
  replace hB10 := hB10.ext hE30
  replace hEw := hEw.ext hE30
  have hsz35 := hEw.size
  refine SQ.new (v := (fun nb => .pointer (some ⟨nb, 0, none⟩))) rfl rfl rfl (r_alloc rfl Tryd.zeroValue25) ?_
  intro nb11 wv31 hge32 hlt33 hB11 hE34
  have hge_hG_hB11 := Nat.le_trans hG.size hge32
  have hlt_hB20_hB11 := Nat.lt_of_lt_of_le hB20.lt hge32
  have hlt_hB21_hB11 := Nat.lt_of_lt_of_le hB21.lt hge32
  have hlt_hB22_hB11 := Nat.lt_of_lt_of_le hB22.lt hge32
  have hlt_hB10_hB11 := Nat.lt_of_lt_of_le hB10.lt hge32
  replace hG := hG.ext hE34
  replace hB20 := hB20.ext hE34
  replace hB21 := hB21.ext hE34
  replace hB22 := hB22.ext hE34
  replace hB10 := hB10.ext hE34
  replace hEw := hEw.ext hE34
  replace hB11 : Blk wv31 nb11 _ _ := hB11
  refine SQ.storeA rfl rfl rfl rfl rfl Tryd.sizeOf25 rfl hB11 ⟨rfl, rfl⟩ ?_
  intro wv36 hS38 hK37
  have hsz39 := hK37.size
  replace hG := hG.kp hK37 (by intro b hb hs; omega)
  replace hB20 := hB20.kp hK37 (by omega)
  replace hB21 := hB21.kp hK37 (by omega)
  replace hB22 := hB22.kp hK37 (by omega)
  replace hB10 := hB10.kp hK37 (by omega)
  replace hB11 : Blk wv36 _ _ _ := hS38
  clear hS38
  replace hEw := hEw.new hK37 (by intro b hb; subst hb; omega)
  refine SQ.nil ?_
  refine C.code ?_
  refine W.seq ?_
  refine W.region ?_
  have hsz40 := hEw.size
  refine SQ.call rfl rfl rfl (rc_func rfl rfl Tryd.call12) (name_spec _ _) ?_
  rintro _ wv41 ⟨rfl, hE42⟩
  refine ⟨_, rfl, ?_⟩
  replace hG := hG.ext hE42
  replace hB20 := hB20.ext hE42
  replace hB21 := hB21.ext hE42
  replace hB22 := hB22.ext hE42
  replace hB10 := hB10.ext hE42
  replace hB11 := hB11.ext hE42
  replace hEw := hEw.ext hE42
  have hsz47 := hEw.size
  refine SQ.new (v := (fun nb => .pointer (some ⟨nb, 0, none⟩))) rfl rfl rfl (r_alloc rfl Tryd.zeroValue25) ?_
  intro nb12 wv43 hge44 hlt45 hB12 hE46
  have hge_hG_hB12 := Nat.le_trans hG.size hge44
  have hlt_hB20_hB12 := Nat.lt_of_lt_of_le hB20.lt hge44
  have hlt_hB21_hB12 := Nat.lt_of_lt_of_le hB21.lt hge44
  have hlt_hB22_hB12 := Nat.lt_of_lt_of_le hB22.lt hge44
  have hlt_hB10_hB12 := Nat.lt_of_lt_of_le hB10.lt hge44
  have hlt_hB11_hB12 := Nat.lt_of_lt_of_le hB11.lt hge44
  replace hG := hG.ext hE46
  replace hB20 := hB20.ext hE46
  replace hB21 := hB21.ext hE46
  replace hB22 := hB22.ext hE46
  replace hB10 := hB10.ext hE46
  replace hB11 := hB11.ext hE46
  replace hEw := hEw.ext hE46
  replace hB12 : Blk wv43 nb12 _ _ := hB12
  refine SQ.storeA rfl rfl rfl rfl rfl Tryd.sizeOf25 rfl hB12 ⟨rfl, rfl⟩ ?_
  intro wv48 hS50 hK49
  have hsz51 := hK49.size
  replace hG := hG.kp hK49 (by intro b hb hs; omega)
  replace hB20 := hB20.kp hK49 (by omega)
  replace hB21 := hB21.kp hK49 (by omega)
  replace hB22 := hB22.kp hK49 (by omega)
  replace hB10 := hB10.kp hK49 (by omega)
  replace hB11 := hB11.kp hK49 (by omega)
  replace hB12 : Blk wv48 _ _ _ := hS50
  clear hS50
  replace hEw := hEw.new hK49 (by intro b hb; subst hb; omega)
  refine SQ.nil ?_
  refine C.code ?_
  apply W.cutA3
  · refine W.fresh ?_
    intro wv52 hE53
    replace hG := hG.ext hE53
    replace hB20 := hB20.ext hE53
    replace hB21 := hB21.ext hE53
    replace hB22 := hB22.ext hE53
    replace hB10 := hB10.ext hE53
    replace hB11 := hB11.ext hE53
    replace hB12 := hB12.ext hE53
    replace hEw := hEw.ext hE53
    refine W.held (fun w' => Kp (fun b => False) wv52 w') mixed ?_
    intro wv54 hE55 _
    have hS56 : Kp (fun b => False) wv52 wv54 := hE55.to _
    refine AH.take 0 rfl (by kernel_rfl) (by kernel_rfl) (by kernel_rfl) PanOk.fn rfl rfl rfl hS56 (fun w' hS => r_move rfl rfl) ?_
    refine AH.take 1 rfl (by kernel_rfl) (by kernel_rfl) (by kernel_rfl) PanOk.fn rfl rfl rfl hS56 (fun w' hS => r_move rfl rfl) ?_
    refine AH.take 2 rfl (by kernel_rfl) (by kernel_rfl) (by kernel_rfl) PanOk.fn rfl rfl rfl hS56 (fun w' hS => r_indexAddr rfl rfl rfl Tryd.underlying49 Tryd.sizeOf22 rfl (Nat.mod_lt _ (by decide))) ?_
    refine AH.take 3 rfl (by kernel_rfl) (by kernel_rfl) (by kernel_rfl) PanOk.fn rfl rfl rfl hS56 (fun w' hS => r_load rfl rfl Tryd.isAgg22 (by first | exact hS.cell (hB12.cell rfl) id | exact hS.cell (hB11.cell rfl) id | exact hS.cell (hB10.cell rfl) id | exact hS.cell (hB22.cell rfl) id | exact hS.cell (hB21.cell rfl) id | exact hS.cell (hB20.cell rfl) id | exact hS.cell (hB22.cell (ranksK_at _ (Nat.mod_lt _ (by decide)))) id | exact hS.cell (hB21.cell (signsK_at _ (Nat.mod_lt _ (by decide)))) id | exact hS.cell (hB20.cell (opsK_at _ (Nat.mod_lt _ (by decide)))) id | assumption)) ?_
    refine AH.take 4 rfl (by kernel_rfl) (by kernel_rfl) (by kernel_rfl) PanOk.fn rfl rfl rfl hS56 (fun w' hS => r_move rfl rfl) ?_
    refine AH.take 5 rfl (by kernel_rfl) (by kernel_rfl) (by kernel_rfl) PanOk.fn rfl rfl rfl hS56 (fun w' hS => r_move rfl rfl) ?_
    refine AH.take 6 rfl (by kernel_rfl) (by kernel_rfl) (by kernel_rfl) PanOk.fn rfl rfl rfl hS56 (fun w' hS => r_indexAddr rfl rfl rfl Tryd.underlying49 Tryd.sizeOf22 rfl (Nat.mod_lt _ (by decide))) ?_
    refine AH.take 7 rfl (by kernel_rfl) (by kernel_rfl) (by kernel_rfl) PanOk.fn rfl rfl rfl hS56 (fun w' hS => r_load rfl rfl Tryd.isAgg22 (by first | exact hS.cell (hB12.cell rfl) id | exact hS.cell (hB11.cell rfl) id | exact hS.cell (hB10.cell rfl) id | exact hS.cell (hB22.cell rfl) id | exact hS.cell (hB21.cell rfl) id | exact hS.cell (hB20.cell rfl) id | exact hS.cell (hB22.cell (ranksK_at _ (Nat.mod_lt _ (by decide)))) id | exact hS.cell (hB21.cell (signsK_at _ (Nat.mod_lt _ (by decide)))) id | exact hS.cell (hB20.cell (opsK_at _ (Nat.mod_lt _ (by decide)))) id | assumption)) ?_
    refine AH.take 8 rfl (by kernel_rfl) (by kernel_rfl) (by kernel_rfl) PanOk.fn rfl rfl rfl hS56 (fun w' hS => r_loadAgg rfl rfl Tryd.isAgg25 Tryd.sizeOf25 rfl (by first | exact (fun j v hv => hS.cell (hB12.cells j v hv) id) | exact (fun j v hv => hS.cell (hB11.cells j v hv) id) | exact (fun j v hv => hS.cell (hB10.cells j v hv) id) | exact (fun j v hv => hS.cell (hB22.cells j v hv) id) | exact (fun j v hv => hS.cell (hB21.cells j v hv) id) | exact (fun j v hv => hS.cell (hB20.cells j v hv) id) | assumption)) ?_
    refine AH.take 9 rfl (by kernel_rfl) (by kernel_rfl) (by kernel_rfl) PanOk.fn rfl rfl rfl hS56 (fun w' hS => r_loadAgg rfl rfl Tryd.isAgg25 Tryd.sizeOf25 rfl (by first | exact (fun j v hv => hS.cell (hB12.cells j v hv) id) | exact (fun j v hv => hS.cell (hB11.cells j v hv) id) | exact (fun j v hv => hS.cell (hB10.cells j v hv) id) | exact (fun j v hv => hS.cell (hB22.cells j v hv) id) | exact (fun j v hv => hS.cell (hB21.cells j v hv) id) | exact (fun j v hv => hS.cell (hB20.cells j v hv) id) | assumption)) ?_
    refine AH.take 12 rfl (by kernel_rfl) (by kernel_rfl) (by kernel_rfl) PanOk.fn rfl rfl rfl hS56 (fun w' hS => r_loadAgg rfl rfl Tryd.isAgg25 Tryd.sizeOf25 rfl (by first | exact (fun j v hv => hS.cell (hB12.cells j v hv) id) | exact (fun j v hv => hS.cell (hB11.cells j v hv) id) | exact (fun j v hv => hS.cell (hB10.cells j v hv) id) | exact (fun j v hv => hS.cell (hB22.cells j v hv) id) | exact (fun j v hv => hS.cell (hB21.cells j v hv) id) | exact (fun j v hv => hS.cell (hB20.cells j v hv) id) | assumption)) ?_
    refine AH.two 10 15 (by kernel_rfl) rfl rfl rfl rfl ?_ ?_
    · have hsz62 := hS56.size
      have hlt0_hB20_hB42 := hB20.lt
      have hlt0_hB21_hB42 := hB21.lt
      have hlt0_hB22_hB42 := hB22.lt
      have hlt0_hB10_hB42 := hB10.lt
      have hlt0_hB11_hB42 := hB11.lt
      have hlt0_hB12_hB42 := hB12.lt
      have hsz63 := hEw.size
      refine OW.new (v := (fun nb => .slice (some ⟨nb, 0, none⟩) 2 2)) rfl rfl (r_buildSlice rfl rfl Tryd.underlying23 Tryd.sizeOf25 Tryd.zeroValue25 rfl rfl rfl rfl rfl) ?_
      intro nb42 wv57 hge60 hlt61 hB42 hE58
      replace hB42 : Blk wv57 nb42 _ _ := hB42
      have hS59 := hS56.ext hE58
      have hA64 := Ext.trans hE55 hE58
      refine OW.next hS59 ?_
      refine AH.two 11 15 (by kernel_rfl) rfl rfl rfl rfl ?_ ?_
      · refine OW.call rfl rfl (rc_func rfl rfl Tryd.call10) (of_spec _ _ _ _ _) ?_
        rintro _ wv65 ⟨rfl, hE66⟩
        refine .inl ⟨_, rfl, ?_⟩
        replace hB42 := hB42.ext hE66
        have hS67 := hS59.ext hE66
        have hA68 := Ext.trans hA64 hE66
        refine OW.next hS67 ?_
        refine AH.two 13 15 (by kernel_rfl) rfl rfl rfl rfl ?_ ?_
        · have hsz74 := hS67.size
          have hlt0_hB20_hB45 := hB20.lt
          have hlt0_hB21_hB45 := hB21.lt
          have hlt0_hB22_hB45 := hB22.lt
          have hlt0_hB10_hB45 := hB10.lt
          have hlt0_hB11_hB45 := hB11.lt
          have hlt0_hB12_hB45 := hB12.lt
          have hsz75 := hEw.size
          refine OW.new (v := (fun nb => .slice (some ⟨nb, 0, none⟩) 2 2)) rfl rfl (r_buildSlice rfl rfl Tryd.underlying23 Tryd.sizeOf25 Tryd.zeroValue25 rfl rfl rfl rfl rfl) ?_
          intro nb45 wv69 hge72 hlt73 hB45 hE70
          have hlt_hB42_hB45 := Nat.lt_of_lt_of_le hB42.lt hge72
          replace hB42 := hB42.ext hE70
          replace hB45 : Blk wv69 nb45 _ _ := hB45
          have hS71 := hS67.ext hE70
          have hA76 := Ext.trans hA68 hE70
          refine OW.next hS71 ?_
          refine AH.two 14 15 (by kernel_rfl) rfl rfl rfl rfl ?_ ?_
          · refine OW.call rfl rfl (rc_func rfl rfl Tryd.call10) (of_spec _ _ _ _ _) ?_
            rintro _ wv77 ⟨rfl, hE78⟩
            refine .inl ⟨_, rfl, ?_⟩
            replace hB42 := hB42.ext hE78
            replace hB45 := hB45.ext hE78
            have hS79 := hS71.ext hE78
            have hA80 := Ext.trans hA76 hE78
            refine OW.next hS79 ?_
            refine AH.one 15 rfl (by kernel_rfl) rfl ?_
            have hsz86 := hS79.size
            have hlt0_hB20_hB13 := hB20.lt
            have hlt0_hB21_hB13 := hB21.lt
            have hlt0_hB22_hB13 := hB22.lt
            have hlt0_hB10_hB13 := hB10.lt
            have hlt0_hB11_hB13 := hB11.lt
            have hlt0_hB12_hB13 := hB12.lt
            have hsz87 := hEw.size
            refine OW.new (v := (fun nb => .pointer (some ⟨nb, 0, none⟩))) rfl rfl (r_alloc rfl Tryd.zeroValue25) ?_
            intro nb13 wv81 hge84 hlt85 hB13 hE82
            have hlt_hB42_hB13 := Nat.lt_of_lt_of_le hB42.lt hge84
            have hlt_hB45_hB13 := Nat.lt_of_lt_of_le hB45.lt hge84
            replace hB42 := hB42.ext hE82
            replace hB45 := hB45.ext hE82
            replace hB13 : Blk wv81 nb13 _ _ := hB13
            have hS83 := hS79.ext hE82
            have hA88 := Ext.trans hA80 hE82
            refine OW.next hS83 ?_
            refine AH.one 16 rfl (by kernel_rfl) rfl ?_
            refine OW.storeA rfl rfl rfl rfl Tryd.sizeOf25 rfl hB13 ⟨rfl, rfl⟩ ?_
            intro wv89 hn92 hE90
            replace hB42 := hB42.kp hE90 (by omega)
            replace hB45 := hB45.kp hE90 (by omega)
            replace hB13 : Blk wv89 _ _ _ := hn92
            clear hn92
            have hS91 : Kp (fun b => False) wv52 wv89 := hS83.new hE90 (by intro b hb; subst hb; omega)
            refine OW.next hS91 ?_
            refine AH.done (by kernel_rfl) ?_
            replace hG := hG.ext hS91
            replace hB20 := hB20.ext hS91
            replace hB21 := hB21.ext hS91
            replace hB22 := hB22.ext hS91
            replace hB10 := hB10.ext hS91
            replace hB11 := hB11.ext hS91
            replace hB12 := hB12.ext hS91
            replace hEw := hEw.ext hS91
            obtain ⟨N13, hN13, hT13⟩ : ∃ N, Sz N wv89 ∧ Tr wv89 (fun b => b < N) (leftE (o % 12) (p % 12)) (some ⟨nb45, 0, none⟩) 2 := ⟨_, Sz.here wv89, Tr.mk2 hB45 hB45.lt (Tr.mk2 hB42 hB42.lt (.nil (by decide)) (.nil (by decide))) (.nil (by decide))⟩
            have hszq := hEw.size
            have hq0_nb45 : Array.size (World.heap w) ≤ nb45 := by omega
            have hq0_nb13 : Array.size (World.heap w) ≤ nb13 := by omega
            have hq_nb20_nb45 : nb20 < nb45 := by omega
            have hq_nb21_nb45 : nb21 < nb45 := by omega
            have hq_nb22_nb45 : nb22 < nb45 := by omega
            have hq_nb10_nb45 : nb10 < nb45 := by omega
            have hq_nb11_nb45 : nb11 < nb45 := by omega
            have hq_nb12_nb45 : nb12 < nb45 := by omega
            have hq_nb45_nb13 : nb45 ≠ nb13 := by omega
            have hq_nb20_nb13 : nb20 < nb13 := by omega
            have hq_nb21_nb13 : nb21 < nb13 := by omega
            have hq_nb22_nb13 : nb22 < nb13 := by omega
            have hq_nb10_nb13 : nb10 < nb13 := by omega
            have hq_nb11_nb13 : nb11 < nb13 := by omega
            have hq_nb12_nb13 : nb12 < nb13 := by omega
            have hall := And.intro hG (And.intro hB20 (And.intro hB21 (And.intro hB22 (And.intro hB10 (And.intro hB11 (And.intro hB12 (And.intro hB13 (And.intro hN13 (And.intro hT13 (And.intro hEw (And.intro hq0_nb45 (And.intro hq0_nb13 (And.intro hq_nb20_nb45 (And.intro hq_nb21_nb45 (And.intro hq_nb22_nb45 (And.intro hq_nb10_nb45 (And.intro hq_nb11_nb45 (And.intro hq_nb12_nb45 (And.intro hq_nb45_nb13 (And.intro hq_nb20_nb13 (And.intro hq_nb21_nb13 (And.intro hq_nb22_nb13 (And.intro hq_nb10_nb13 (And.intro hq_nb11_nb13 (hq_nb12_nb13)))))))))))))))))))))))))
            apply C.cutA3 nb45 nb13 N13 [4, 5, 6, 7, 8, 9, 10, 11, 12, 13]
            · rfl
            · exact hall
          · have hsz98 := hS71.size
            have hlt0_hB20_hB13 := hB20.lt
            have hlt0_hB21_hB13 := hB21.lt
            have hlt0_hB22_hB13 := hB22.lt
            have hlt0_hB10_hB13 := hB10.lt
            have hlt0_hB11_hB13 := hB11.lt
            have hlt0_hB12_hB13 := hB12.lt
            have hsz99 := hEw.size
            refine OW.new (v := (fun nb => .pointer (some ⟨nb, 0, none⟩))) rfl rfl (r_alloc rfl Tryd.zeroValue25) ?_
            intro nb13 wv93 hge96 hlt97 hB13 hE94
            have hlt_hB42_hB13 := Nat.lt_of_lt_of_le hB42.lt hge96
            have hlt_hB45_hB13 := Nat.lt_of_lt_of_le hB45.lt hge96
            replace hB42 := hB42.ext hE94
            replace hB45 := hB45.ext hE94
            replace hB13 : Blk wv93 nb13 _ _ := hB13
            have hS95 := hS71.ext hE94
            have hA100 := Ext.trans hA76 hE94
            refine OW.next hS95 ?_
            refine AH.one 14 rfl (by kernel_rfl) rfl ?_
            refine OW.call rfl rfl (rc_func rfl rfl Tryd.call10) (of_spec _ _ _ _ _) ?_
            rintro _ wv101 ⟨rfl, hE102⟩
            refine .inl ⟨_, rfl, ?_⟩
            replace hB42 := hB42.ext hE102
            replace hB45 := hB45.ext hE102
            replace hB13 := hB13.ext hE102
            have hS103 := hS95.ext hE102
            have hA104 := Ext.trans hA100 hE102
            refine OW.next hS103 ?_
            refine AH.one 16 rfl (by kernel_rfl) rfl ?_
            refine OW.storeA rfl rfl rfl rfl Tryd.sizeOf25 rfl hB13 ⟨rfl, rfl⟩ ?_
            intro wv105 hn108 hE106
            replace hB42 := hB42.kp hE106 (by omega)
            replace hB45 := hB45.kp hE106 (by omega)
            replace hB13 : Blk wv105 _ _ _ := hn108
            clear hn108
            have hS107 : Kp (fun b => False) wv52 wv105 := hS103.new hE106 (by intro b hb; subst hb; omega)
            refine OW.next hS107 ?_
            refine AH.done (by kernel_rfl) ?_
            replace hG := hG.ext hS107
            replace hB20 := hB20.ext hS107
            replace hB21 := hB21.ext hS107
            replace hB22 := hB22.ext hS107
            replace hB10 := hB10.ext hS107
            replace hB11 := hB11.ext hS107
            replace hB12 := hB12.ext hS107
            replace hEw := hEw.ext hS107
            obtain ⟨N13, hN13, hT13⟩ : ∃ N, Sz N wv105 ∧ Tr wv105 (fun b => b < N) (leftE (o % 12) (p % 12)) (some ⟨nb45, 0, none⟩) 2 := ⟨_, Sz.here wv105, Tr.mk2 hB45 hB45.lt (Tr.mk2 hB42 hB42.lt (.nil (by decide)) (.nil (by decide))) (.nil (by decide))⟩
            have hszq := hEw.size
            have hq0_nb45 : Array.size (World.heap w) ≤ nb45 := by omega
            have hq0_nb13 : Array.size (World.heap w) ≤ nb13 := by omega
            have hq_nb20_nb45 : nb20 < nb45 := by omega
            have hq_nb21_nb45 : nb21 < nb45 := by omega
            have hq_nb22_nb45 : nb22 < nb45 := by omega
            have hq_nb10_nb45 : nb10 < nb45 := by omega
            have hq_nb11_nb45 : nb11 < nb45 := by omega
            have hq_nb12_nb45 : nb12 < nb45 := by omega
            have hq_nb45_nb13 : nb45 ≠ nb13 := by omega
            have hq_nb20_nb13 : nb20 < nb13 := by omega
            have hq_nb21_nb13 : nb21 < nb13 := by omega
            have hq_nb22_nb13 : nb22 < nb13 := by omega
            have hq_nb10_nb13 : nb10 < nb13 := by omega
            have hq_nb11_nb13 : nb11 < nb13 := by omega
            have hq_nb12_nb13 : nb12 < nb13 := by omega
            have hall := And.intro hG (And.intro hB20 (And.intro hB21 (And.intro hB22 (And.intro hB10 (And.intro hB11 (And.intro hB12 (And.intro hB13 (And.intro hN13 (And.intro hT13 (And.intro hEw (And.intro hq0_nb45 (And.intro hq0_nb13 (And.intro hq_nb20_nb45 (And.intro hq_nb21_nb45 (And.intro hq_nb22_nb45 (And.intro hq_nb10_nb45 (And.intro hq_nb11_nb45 (And.intro hq_nb12_nb45 (And.intro hq_nb45_nb13 (And.intro hq_nb20_nb13 (And.intro hq_nb21_nb13 (And.intro hq_nb22_nb13 (And.intro hq_nb10_nb13 (And.intro hq_nb11_nb13 (hq_nb12_nb13)))))))))))))))))))))))))
            apply C.cutA3 nb45 nb13 N13 [4, 5, 6, 7, 8, 9, 10, 11, 12, 13]
            · rfl
            · exact hall
        · have hsz114 := hS67.size
          have hlt0_hB20_hB13 := hB20.lt
          have hlt0_hB21_hB13 := hB21.lt
          have hlt0_hB22_hB13 := hB22.lt
          have hlt0_hB10_hB13 := hB10.lt
          have hlt0_hB11_hB13 := hB11.lt
          have hlt0_hB12_hB13 := hB12.lt
          have hsz115 := hEw.size
          refine OW.new (v := (fun nb => .pointer (some ⟨nb, 0, none⟩))) rfl rfl (r_alloc rfl Tryd.zeroValue25) ?_
          intro nb13 wv109 hge112 hlt113 hB13 hE110
          have hlt_hB42_hB13 := Nat.lt_of_lt_of_le hB42.lt hge112
          replace hB42 := hB42.ext hE110
          replace hB13 : Blk wv109 nb13 _ _ := hB13
          have hS111 := hS67.ext hE110
          have hA116 := Ext.trans hA68 hE110
          refine OW.next hS111 ?_
          refine AH.one 13 rfl (by kernel_rfl) rfl ?_
          have hsz122 := hS111.size
          have hlt0_hB20_hB45 := hB20.lt
          have hlt0_hB21_hB45 := hB21.lt
          have hlt0_hB22_hB45 := hB22.lt
          have hlt0_hB10_hB45 := hB10.lt
          have hlt0_hB11_hB45 := hB11.lt
          have hlt0_hB12_hB45 := hB12.lt
          have hsz123 := hEw.size
          refine OW.new (v := (fun nb => .slice (some ⟨nb, 0, none⟩) 2 2)) rfl rfl (r_buildSlice rfl rfl Tryd.underlying23 Tryd.sizeOf25 Tryd.zeroValue25 rfl rfl rfl rfl rfl) ?_
          intro nb45 wv117 hge120 hlt121 hB45 hE118
          have hlt_hB42_hB45 := Nat.lt_of_lt_of_le hB42.lt hge120
          have hlt_hB13_hB45 := Nat.lt_of_lt_of_le hB13.lt hge120
          replace hB42 := hB42.ext hE118
          replace hB13 := hB13.ext hE118
          replace hB45 : Blk wv117 nb45 _ _ := hB45
          have hS119 := hS111.ext hE118
          have hA124 := Ext.trans hA116 hE118
          refine OW.next hS119 ?_
          refine AH.one 14 rfl (by kernel_rfl) rfl ?_
          refine OW.call rfl rfl (rc_func rfl rfl Tryd.call10) (of_spec _ _ _ _ _) ?_
          rintro _ wv125 ⟨rfl, hE126⟩
          refine .inl ⟨_, rfl, ?_⟩
          replace hB42 := hB42.ext hE126
          replace hB13 := hB13.ext hE126
          replace hB45 := hB45.ext hE126
          have hS127 := hS119.ext hE126
          have hA128 := Ext.trans hA124 hE126
          refine OW.next hS127 ?_
          refine AH.one 16 rfl (by kernel_rfl) rfl ?_
          refine OW.storeA rfl rfl rfl rfl Tryd.sizeOf25 rfl hB13 ⟨rfl, rfl⟩ ?_
          intro wv129 hn132 hE130
          replace hB42 := hB42.kp hE130 (by omega)
          replace hB45 := hB45.kp hE130 (by omega)
          replace hB13 : Blk wv129 _ _ _ := hn132
          clear hn132
          have hS131 : Kp (fun b => False) wv52 wv129 := hS127.new hE130 (by intro b hb; subst hb; omega)
          refine OW.next hS131 ?_
          refine AH.done (by kernel_rfl) ?_
          replace hG := hG.ext hS131
          replace hB20 := hB20.ext hS131
          replace hB21 := hB21.ext hS131
          replace hB22 := hB22.ext hS131
          replace hB10 := hB10.ext hS131
          replace hB11 := hB11.ext hS131
          replace hB12 := hB12.ext hS131
          replace hEw := hEw.ext hS131
          obtain ⟨N13, hN13, hT13⟩ : ∃ N, Sz N wv129 ∧ Tr wv129 (fun b => b < N) (leftE (o % 12) (p % 12)) (some ⟨nb45, 0, none⟩) 2 := ⟨_, Sz.here wv129, Tr.mk2 hB45 hB45.lt (Tr.mk2 hB42 hB42.lt (.nil (by decide)) (.nil (by decide))) (.nil (by decide))⟩
          have hszq := hEw.size
          have hq0_nb45 : Array.size (World.heap w) ≤ nb45 := by omega
          have hq0_nb13 : Array.size (World.heap w) ≤ nb13 := by omega
          have hq_nb20_nb45 : nb20 < nb45 := by omega
          have hq_nb21_nb45 : nb21 < nb45 := by omega
          have hq_nb22_nb45 : nb22 < nb45 := by omega
          have hq_nb10_nb45 : nb10 < nb45 := by omega
          have hq_nb11_nb45 : nb11 < nb45 := by omega
          have hq_nb12_nb45 : nb12 < nb45 := by omega
          have hq_nb45_nb13 : nb45 ≠ nb13 := by omega
          have hq_nb20_nb13 : nb20 < nb13 := by omega
          have hq_nb21_nb13 : nb21 < nb13 := by omega
          have hq_nb22_nb13 : nb22 < nb13 := by omega
          have hq_nb10_nb13 : nb10 < nb13 := by omega
          have hq_nb11_nb13 : nb11 < nb13 := by omega
          have hq_nb12_nb13 : nb12 < nb13 := by omega
          have hall := And.intro hG (And.intro hB20 (And.intro hB21 (And.intro hB22 (And.intro hB10 (And.intro hB11 (And.intro hB12 (And.intro hB13 (And.intro hN13 (And.intro hT13 (And.intro hEw (And.intro hq0_nb45 (And.intro hq0_nb13 (And.intro hq_nb20_nb45 (And.intro hq_nb21_nb45 (And.intro hq_nb22_nb45 (And.intro hq_nb10_nb45 (And.intro hq_nb11_nb45 (And.intro hq_nb12_nb45 (And.intro hq_nb45_nb13 (And.intro hq_nb20_nb13 (And.intro hq_nb21_nb13 (And.intro hq_nb22_nb13 (And.intro hq_nb10_nb13 (And.intro hq_nb11_nb13 (hq_nb12_nb13)))))))))))))))))))))))))
          apply C.cutA3 nb45 nb13 N13 [4, 5, 6, 7, 8, 9, 10, 11, 12, 13]
          · rfl
          · exact hall
      · have hsz138 := hS59.size
        have hlt0_hB20_hB13 := hB20.lt
        have hlt0_hB21_hB13 := hB21.lt
        have hlt0_hB22_hB13 := hB22.lt
        have hlt0_hB10_hB13 := hB10.lt
        have hlt0_hB11_hB13 := hB11.lt
        have hlt0_hB12_hB13 := hB12.lt
        have hsz139 := hEw.size
        refine OW.new (v := (fun nb => .pointer (some ⟨nb, 0, none⟩))) rfl rfl (r_alloc rfl Tryd.zeroValue25) ?_
        intro nb13 wv133 hge136 hlt137 hB13 hE134
        have hlt_hB42_hB13 := Nat.lt_of_lt_of_le hB42.lt hge136
        replace hB42 := hB42.ext hE134
        replace hB13 : Blk wv133 nb13 _ _ := hB13
        have hS135 := hS59.ext hE134
        have hA140 := Ext.trans hA64 hE134
        refine OW.next hS135 ?_
        refine AH.one 11 rfl (by kernel_rfl) rfl ?_
        refine OW.call rfl rfl (rc_func rfl rfl Tryd.call10) (of_spec _ _ _ _ _) ?_
        rintro _ wv141 ⟨rfl, hE142⟩
        refine .inl ⟨_, rfl, ?_⟩
        replace hB42 := hB42.ext hE142
        replace hB13 := hB13.ext hE142
        have hS143 := hS135.ext hE142
        have hA144 := Ext.trans hA140 hE142
        refine OW.next hS143 ?_
        refine AH.one 13 rfl (by kernel_rfl) rfl ?_
        have hsz150 := hS143.size
        have hlt0_hB20_hB45 := hB20.lt
        have hlt0_hB21_hB45 := hB21.lt
        have hlt0_hB22_hB45 := hB22.lt
        have hlt0_hB10_hB45 := hB10.lt
        have hlt0_hB11_hB45 := hB11.lt
        have hlt0_hB12_hB45 := hB12.lt
        have hsz151 := hEw.size
        refine OW.new (v := (fun nb => .slice (some ⟨nb, 0, none⟩) 2 2)) rfl rfl (r_buildSlice rfl rfl Tryd.underlying23 Tryd.sizeOf25 Tryd.zeroValue25 rfl rfl rfl rfl rfl) ?_
        intro nb45 wv145 hge148 hlt149 hB45 hE146
        have hlt_hB42_hB45 := Nat.lt_of_lt_of_le hB42.lt hge148
        have hlt_hB13_hB45 := Nat.lt_of_lt_of_le hB13.lt hge148
        replace hB42 := hB42.ext hE146
        replace hB13 := hB13.ext hE146
        replace hB45 : Blk wv145 nb45 _ _ := hB45
        have hS147 := hS143.ext hE146
        have hA152 := Ext.trans hA144 hE146
        refine OW.next hS147 ?_
        refine AH.one 14 rfl (by kernel_rfl) rfl ?_
        refine OW.call rfl rfl (rc_func rfl rfl Tryd.call10) (of_spec _ _ _ _ _) ?_
        rintro _ wv153 ⟨rfl, hE154⟩
        refine .inl ⟨_, rfl, ?_⟩
        replace hB42 := hB42.ext hE154
        replace hB13 := hB13.ext hE154
        replace hB45 := hB45.ext hE154
        have hS155 := hS147.ext hE154
        have hA156 := Ext.trans hA152 hE154
        refine OW.next hS155 ?_
        refine AH.one 16 rfl (by kernel_rfl) rfl ?_
        refine OW.storeA rfl rfl rfl rfl Tryd.sizeOf25 rfl hB13 ⟨rfl, rfl⟩ ?_
        intro wv157 hn160 hE158
        replace hB42 := hB42.kp hE158 (by omega)
        replace hB45 := hB45.kp hE158 (by omega)
        replace hB13 : Blk wv157 _ _ _ := hn160
        clear hn160
        have hS159 : Kp (fun b => False) wv52 wv157 := hS155.new hE158 (by intro b hb; subst hb; omega)
        refine OW.next hS159 ?_
        refine AH.done (by kernel_rfl) ?_
        replace hG := hG.ext hS159
        replace hB20 := hB20.ext hS159
        replace hB21 := hB21.ext hS159
        replace hB22 := hB22.ext hS159
        replace hB10 := hB10.ext hS159
        replace hB11 := hB11.ext hS159
        replace hB12 := hB12.ext hS159
        replace hEw := hEw.ext hS159
        obtain ⟨N13, hN13, hT13⟩ : ∃ N, Sz N wv157 ∧ Tr wv157 (fun b => b < N) (leftE (o % 12) (p % 12)) (some ⟨nb45, 0, none⟩) 2 := ⟨_, Sz.here wv157, Tr.mk2 hB45 hB45.lt (Tr.mk2 hB42 hB42.lt (.nil (by decide)) (.nil (by decide))) (.nil (by decide))⟩
        have hszq := hEw.size
        have hq0_nb45 : Array.size (World.heap w) ≤ nb45 := by omega
        have hq0_nb13 : Array.size (World.heap w) ≤ nb13 := by omega
        have hq_nb20_nb45 : nb20 < nb45 := by omega
        have hq_nb21_nb45 : nb21 < nb45 := by omega
        have hq_nb22_nb45 : nb22 < nb45 := by omega
        have hq_nb10_nb45 : nb10 < nb45 := by omega
        have hq_nb11_nb45 : nb11 < nb45 := by omega
        have hq_nb12_nb45 : nb12 < nb45 := by omega
        have hq_nb45_nb13 : nb45 ≠ nb13 := by omega
        have hq_nb20_nb13 : nb20 < nb13 := by omega
        have hq_nb21_nb13 : nb21 < nb13 := by omega
        have hq_nb22_nb13 : nb22 < nb13 := by omega
        have hq_nb10_nb13 : nb10 < nb13 := by omega
        have hq_nb11_nb13 : nb11 < nb13 := by omega
        have hq_nb12_nb13 : nb12 < nb13 := by omega
        have hall := And.intro hG (And.intro hB20 (And.intro hB21 (And.intro hB22 (And.intro hB10 (And.intro hB11 (And.intro hB12 (And.intro hB13 (And.intro hN13 (And.intro hT13 (And.intro hEw (And.intro hq0_nb45 (And.intro hq0_nb13 (And.intro hq_nb20_nb45 (And.intro hq_nb21_nb45 (And.intro hq_nb22_nb45 (And.intro hq_nb10_nb45 (And.intro hq_nb11_nb45 (And.intro hq_nb12_nb45 (And.intro hq_nb45_nb13 (And.intro hq_nb20_nb13 (And.intro hq_nb21_nb13 (And.intro hq_nb22_nb13 (And.intro hq_nb10_nb13 (And.intro hq_nb11_nb13 (hq_nb12_nb13)))))))))))))))))))))))))
        apply C.cutA3 nb45 nb13 N13 [4, 5, 6, 7, 8, 9, 10, 11, 12, 13]
        · rfl
        · exact hall
    · have hsz166 := hS56.size
      have hlt0_hB20_hB13 := hB20.lt
      have hlt0_hB21_hB13 := hB21.lt
      have hlt0_hB22_hB13 := hB22.lt
      have hlt0_hB10_hB13 := hB10.lt
      have hlt0_hB11_hB13 := hB11.lt
      have hlt0_hB12_hB13 := hB12.lt
      have hsz167 := hEw.size
      refine OW.new (v := (fun nb => .pointer (some ⟨nb, 0, none⟩))) rfl rfl (r_alloc rfl Tryd.zeroValue25) ?_
      intro nb13 wv161 hge164 hlt165 hB13 hE162
      replace hB13 : Blk wv161 nb13 _ _ := hB13
      have hS163 := hS56.ext hE162
      have hA168 := Ext.trans hE55 hE162
      refine OW.next hS163 ?_
      refine AH.one 10 rfl (by kernel_rfl) rfl ?_
      have hsz174 := hS163.size
      have hlt0_hB20_hB42 := hB20.lt
      have hlt0_hB21_hB42 := hB21.lt
      have hlt0_hB22_hB42 := hB22.lt
      have hlt0_hB10_hB42 := hB10.lt
      have hlt0_hB11_hB42 := hB11.lt
      have hlt0_hB12_hB42 := hB12.lt
      have hsz175 := hEw.size
      refine OW.new (v := (fun nb => .slice (some ⟨nb, 0, none⟩) 2 2)) rfl rfl (r_buildSlice rfl rfl Tryd.underlying23 Tryd.sizeOf25 Tryd.zeroValue25 rfl rfl rfl rfl rfl) ?_
      intro nb42 wv169 hge172 hlt173 hB42 hE170
      have hlt_hB13_hB42 := Nat.lt_of_lt_of_le hB13.lt hge172
      replace hB13 := hB13.ext hE170
      replace hB42 : Blk wv169 nb42 _ _ := hB42
      have hS171 := hS163.ext hE170
      have hA176 := Ext.trans hA168 hE170
      refine OW.next hS171 ?_
      refine AH.one 11 rfl (by kernel_rfl) rfl ?_
      refine OW.call rfl rfl (rc_func rfl rfl Tryd.call10) (of_spec _ _ _ _ _) ?_
      rintro _ wv177 ⟨rfl, hE178⟩
      refine .inl ⟨_, rfl, ?_⟩
      replace hB13 := hB13.ext hE178
      replace hB42 := hB42.ext hE178
      have hS179 := hS171.ext hE178
      have hA180 := Ext.trans hA176 hE178
      refine OW.next hS179 ?_
      refine AH.one 13 rfl (by kernel_rfl) rfl ?_
      have hsz186 := hS179.size
      have hlt0_hB20_hB45 := hB20.lt
      have hlt0_hB21_hB45 := hB21.lt
      have hlt0_hB22_hB45 := hB22.lt
      have hlt0_hB10_hB45 := hB10.lt
      have hlt0_hB11_hB45 := hB11.lt
      have hlt0_hB12_hB45 := hB12.lt
      have hsz187 := hEw.size
      refine OW.new (v := (fun nb => .slice (some ⟨nb, 0, none⟩) 2 2)) rfl rfl (r_buildSlice rfl rfl Tryd.underlying23 Tryd.sizeOf25 Tryd.zeroValue25 rfl rfl rfl rfl rfl) ?_
      intro nb45 wv181 hge184 hlt185 hB45 hE182
      have hlt_hB13_hB45 := Nat.lt_of_lt_of_le hB13.lt hge184
      have hlt_hB42_hB45 := Nat.lt_of_lt_of_le hB42.lt hge184
      replace hB13 := hB13.ext hE182
      replace hB42 := hB42.ext hE182
      replace hB45 : Blk wv181 nb45 _ _ := hB45
      have hS183 := hS179.ext hE182
      have hA188 := Ext.trans hA180 hE182
      refine OW.next hS183 ?_
      refine AH.one 14 rfl (by kernel_rfl) rfl ?_
      refine OW.call rfl rfl (rc_func rfl rfl Tryd.call10) (of_spec _ _ _ _ _) ?_
      rintro _ wv189 ⟨rfl, hE190⟩
      refine .inl ⟨_, rfl, ?_⟩
      replace hB13 := hB13.ext hE190
      replace hB42 := hB42.ext hE190
      replace hB45 := hB45.ext hE190
      have hS191 := hS183.ext hE190
      have hA192 := Ext.trans hA188 hE190
      refine OW.next hS191 ?_
      refine AH.one 16 rfl (by kernel_rfl) rfl ?_
      refine OW.storeA rfl rfl rfl rfl Tryd.sizeOf25 rfl hB13 ⟨rfl, rfl⟩ ?_
      intro wv193 hn196 hE194
      replace hB42 := hB42.kp hE194 (by omega)
      replace hB45 := hB45.kp hE194 (by omega)
      replace hB13 : Blk wv193 _ _ _ := hn196
      clear hn196
      have hS195 : Kp (fun b => False) wv52 wv193 := hS191.new hE194 (by intro b hb; subst hb; omega)
      refine OW.next hS195 ?_
      refine AH.done (by kernel_rfl) ?_
      replace hG := hG.ext hS195
      replace hB20 := hB20.ext hS195
      replace hB21 := hB21.ext hS195
      replace hB22 := hB22.ext hS195
      replace hB10 := hB10.ext hS195
      replace hB11 := hB11.ext hS195
      replace hB12 := hB12.ext hS195
      replace hEw := hEw.ext hS195
      obtain ⟨N13, hN13, hT13⟩ : ∃ N, Sz N wv193 ∧ Tr wv193 (fun b => b < N) (leftE (o % 12) (p % 12)) (some ⟨nb45, 0, none⟩) 2 := ⟨_, Sz.here wv193, Tr.mk2 hB45 hB45.lt (Tr.mk2 hB42 hB42.lt (.nil (by decide)) (.nil (by decide))) (.nil (by decide))⟩
      have hszq := hEw.size
      have hq0_nb45 : Array.size (World.heap w) ≤ nb45 := by omega
      have hq0_nb13 : Array.size (World.heap w) ≤ nb13 := by omega
      have hq_nb20_nb45 : nb20 < nb45 := by omega
      have hq_nb21_nb45 : nb21 < nb45 := by omega
      have hq_nb22_nb45 : nb22 < nb45 := by omega
      have hq_nb10_nb45 : nb10 < nb45 := by omega
      have hq_nb11_nb45 : nb11 < nb45 := by omega
      have hq_nb12_nb45 : nb12 < nb45 := by omega
      have hq_nb45_nb13 : nb45 ≠ nb13 := by omega
      have hq_nb20_nb13 : nb20 < nb13 := by omega
      have hq_nb21_nb13 : nb21 < nb13 := by omega
      have hq_nb22_nb13 : nb22 < nb13 := by omega
      have hq_nb10_nb13 : nb10 < nb13 := by omega
      have hq_nb11_nb13 : nb11 < nb13 := by omega
      have hq_nb12_nb13 : nb12 < nb13 := by omega
      have hall := And.intro hG (And.intro hB20 (And.intro hB21 (And.intro hB22 (And.intro hB10 (And.intro hB11 (And.intro hB12 (And.intro hB13 (And.intro hN13 (And.intro hT13 (And.intro hEw (And.intro hq0_nb45 (And.intro hq0_nb13 (And.intro hq_nb20_nb45 (And.intro hq_nb21_nb45 (And.intro hq_nb22_nb45 (And.intro hq_nb10_nb45 (And.intro hq_nb11_nb45 (And.intro hq_nb12_nb45 (And.intro hq_nb45_nb13 (And.intro hq_nb20_nb13 (And.intro hq_nb21_nb13 (And.intro hq_nb22_nb13 (And.intro hq_nb10_nb13 (And.intro hq_nb11_nb13 (hq_nb12_nb13)))))))))))))))))))))))))
      apply C.cutA3 nb45 nb13 N13 [4, 5, 6, 7, 8, 9, 10, 11, 12, 13]
      · rfl
      · exact hall
  · intro nb45 nb13 N13 wc197 hI
    obtain ⟨hG, hB20, hB21, hB22, hB10, hB11, hB12, hB13, hN13, hT13, hEw, hq0_nb45, hq0_nb13, hq_nb20_nb45, hq_nb21_nb45, hq_nb22_nb45, hq_nb10_nb45, hq_nb11_nb45, hq_nb12_nb45, hq_nb45_nb13, hq_nb20_nb13, hq_nb21_nb13, hq_nb22_nb13, hq_nb10_nb13, hq_nb11_nb13, hq_nb12_nb13⟩ := hI
    apply W.cutA3
    · refine W.fresh ?_
      intro wv198 hE199
      replace hG := hG.ext hE199
      replace hB20 := hB20.ext hE199
      replace hB21 := hB21.ext hE199
      replace hB22 := hB22.ext hE199
      replace hB10 := hB10.ext hE199
      replace hB11 := hB11.ext hE199
      replace hB12 := hB12.ext hE199
      replace hB13 := hB13.ext hE199
      replace hN13 := hN13.ext hE199
      replace hT13 := hT13.ext hE199
      replace hEw := hEw.ext hE199
      refine W.held (fun w' => Kp (fun b => False) wv198 w') mixed ?_
      intro wv200 hE201 _
      have hS202 : Kp (fun b => False) wv198 wv200 := hE201.to _
      refine AH.take 0 rfl (by kernel_rfl) (by kernel_rfl) (by kernel_rfl) PanOk.fn rfl rfl rfl hS202 (fun w' hS => r_move rfl rfl) ?_
      refine AH.take 1 rfl (by kernel_rfl) (by kernel_rfl) (by kernel_rfl) PanOk.fn rfl rfl rfl hS202 (fun w' hS => r_move rfl rfl) ?_
      refine AH.take 2 rfl (by kernel_rfl) (by kernel_rfl) (by kernel_rfl) PanOk.fn rfl rfl rfl hS202 (fun w' hS => r_indexAddr rfl rfl rfl Tryd.underlying49 Tryd.sizeOf22 rfl (Nat.mod_lt _ (by decide))) ?_
      refine AH.take 3 rfl (by kernel_rfl) (by kernel_rfl) (by kernel_rfl) PanOk.fn rfl rfl rfl hS202 (fun w' hS => r_load rfl rfl Tryd.isAgg22 (by first | exact hS.cell (hB13.cell rfl) id | exact hS.cell (hB12.cell rfl) id | exact hS.cell (hB11.cell rfl) id | exact hS.cell (hB10.cell rfl) id | exact hS.cell (hB22.cell rfl) id | exact hS.cell (hB21.cell rfl) id | exact hS.cell (hB20.cell rfl) id | exact hS.cell (hB22.cell (ranksK_at _ (Nat.mod_lt _ (by decide)))) id | exact hS.cell (hB21.cell (signsK_at _ (Nat.mod_lt _ (by decide)))) id | exact hS.cell (hB20.cell (opsK_at _ (Nat.mod_lt _ (by decide)))) id | assumption)) ?_
      refine AH.take 4 rfl (by kernel_rfl) (by kernel_rfl) (by kernel_rfl) PanOk.fn rfl rfl rfl hS202 (fun w' hS => r_loadAgg rfl rfl Tryd.isAgg25 Tryd.sizeOf25 rfl (by first | exact (fun j v hv => hS.cell (hB13.cells j v hv) id) | exact (fun j v hv => hS.cell (hB12.cells j v hv) id) | exact (fun j v hv => hS.cell (hB11.cells j v hv) id) | exact (fun j v hv => hS.cell (hB10.cells j v hv) id) | exact (fun j v hv => hS.cell (hB22.cells j v hv) id) | exact (fun j v hv => hS.cell (hB21.cells j v hv) id) | exact (fun j v hv => hS.cell (hB20.cells j v hv) id) | assumption)) ?_
      refine AH.take 5 rfl (by kernel_rfl) (by kernel_rfl) (by kernel_rfl) PanOk.fn rfl rfl rfl hS202 (fun w' hS => r_move rfl rfl) ?_
      refine AH.take 6 rfl (by kernel_rfl) (by kernel_rfl) (by kernel_rfl) PanOk.fn rfl rfl rfl hS202 (fun w' hS => r_move rfl rfl) ?_
      refine AH.take 7 rfl (by kernel_rfl) (by kernel_rfl) (by kernel_rfl) PanOk.fn rfl rfl rfl hS202 (fun w' hS => r_indexAddr rfl rfl rfl Tryd.underlying49 Tryd.sizeOf22 rfl (Nat.mod_lt _ (by decide))) ?_
      refine AH.take 8 rfl (by kernel_rfl) (by kernel_rfl) (by kernel_rfl) PanOk.fn rfl rfl rfl hS202 (fun w' hS => r_load rfl rfl Tryd.isAgg22 (by first | exact hS.cell (hB13.cell rfl) id | exact hS.cell (hB12.cell rfl) id | exact hS.cell (hB11.cell rfl) id | exact hS.cell (hB10.cell rfl) id | exact hS.cell (hB22.cell rfl) id | exact hS.cell (hB21.cell rfl) id | exact hS.cell (hB20.cell rfl) id | exact hS.cell (hB22.cell (ranksK_at _ (Nat.mod_lt _ (by decide)))) id | exact hS.cell (hB21.cell (signsK_at _ (Nat.mod_lt _ (by decide)))) id | exact hS.cell (hB20.cell (opsK_at _ (Nat.mod_lt _ (by decide)))) id | assumption)) ?_
      refine AH.take 9 rfl (by kernel_rfl) (by kernel_rfl) (by kernel_rfl) PanOk.fn rfl rfl rfl hS202 (fun w' hS => r_loadAgg rfl rfl Tryd.isAgg25 Tryd.sizeOf25 rfl (by first | exact (fun j v hv => hS.cell (hB13.cells j v hv) id) | exact (fun j v hv => hS.cell (hB12.cells j v hv) id) | exact (fun j v hv => hS.cell (hB11.cells j v hv) id) | exact (fun j v hv => hS.cell (hB10.cells j v hv) id) | exact (fun j v hv => hS.cell (hB22.cells j v hv) id) | exact (fun j v hv => hS.cell (hB21.cells j v hv) id) | exact (fun j v hv => hS.cell (hB20.cells j v hv) id) | assumption)) ?_
      refine AH.take 10 rfl (by kernel_rfl) (by kernel_rfl) (by kernel_rfl) PanOk.fn rfl rfl rfl hS202 (fun w' hS => r_loadAgg rfl rfl Tryd.isAgg25 Tryd.sizeOf25 rfl (by first | exact (fun j v hv => hS.cell (hB13.cells j v hv) id) | exact (fun j v hv => hS.cell (hB12.cells j v hv) id) | exact (fun j v hv => hS.cell (hB11.cells j v hv) id) | exact (fun j v hv => hS.cell (hB10.cells j v hv) id) | exact (fun j v hv => hS.cell (hB22.cells j v hv) id) | exact (fun j v hv => hS.cell (hB21.cells j v hv) id) | exact (fun j v hv => hS.cell (hB20.cells j v hv) id) | assumption)) ?_
      refine AH.two 11 15 (by kernel_rfl) rfl rfl rfl rfl ?_ ?_
      · have hsz208 := hS202.size
        have hlt0_hB20_hB58 := hB20.lt
        have hlt0_hB21_hB58 := hB21.lt
        have hlt0_hB22_hB58 := hB22.lt
        have hlt0_hB10_hB58 := hB10.lt
        have hlt0_hB11_hB58 := hB11.lt
        have hlt0_hB12_hB58 := hB12.lt
        have hlt0_hB13_hB58 := hB13.lt
        have hlt0_hN13_hB58 := hN13.le
        have hsz209 := hEw.size
        refine OW.new (v := (fun nb => .slice (some ⟨nb, 0, none⟩) 2 2)) rfl rfl (r_buildSlice rfl rfl Tryd.underlying23 Tryd.sizeOf25 Tryd.zeroValue25 rfl rfl rfl rfl rfl) ?_
        intro nb58 wv203 hge206 hlt207 hB58 hE204
        replace hB58 : Blk wv203 nb58 _ _ := hB58
        have hS205 := hS202.ext hE204
        have hA210 := Ext.trans hE201 hE204
        refine OW.next hS205 ?_
        refine AH.two 12 15 (by kernel_rfl) rfl rfl rfl rfl ?_ ?_
        · refine OW.call rfl rfl (rc_func rfl rfl Tryd.call10) (of_spec _ _ _ _ _) ?_
          rintro _ wv211 ⟨rfl, hE212⟩
          refine .inl ⟨_, rfl, ?_⟩
          replace hB58 := hB58.ext hE212
          have hS213 := hS205.ext hE212
          have hA214 := Ext.trans hA210 hE212
          refine OW.next hS213 ?_
          refine AH.two 13 15 (by kernel_rfl) rfl rfl rfl rfl ?_ ?_
          · have hsz220 := hS213.size
            have hlt0_hB20_hB60 := hB20.lt
            have hlt0_hB21_hB60 := hB21.lt
            have hlt0_hB22_hB60 := hB22.lt
            have hlt0_hB10_hB60 := hB10.lt
            have hlt0_hB11_hB60 := hB11.lt
            have hlt0_hB12_hB60 := hB12.lt
            have hlt0_hB13_hB60 := hB13.lt
            have hlt0_hN13_hB60 := hN13.le
            have hsz221 := hEw.size
            refine OW.new (v := (fun nb => .slice (some ⟨nb, 0, none⟩) 2 2)) rfl rfl (r_buildSlice rfl rfl Tryd.underlying23 Tryd.sizeOf25 Tryd.zeroValue25 rfl rfl rfl rfl rfl) ?_
            intro nb60 wv215 hge218 hlt219 hB60 hE216
            have hlt_hB58_hB60 := Nat.lt_of_lt_of_le hB58.lt hge218
            replace hB58 := hB58.ext hE216
            replace hB60 : Blk wv215 nb60 _ _ := hB60
            have hS217 := hS213.ext hE216
            have hA222 := Ext.trans hA214 hE216
            refine OW.next hS217 ?_
            refine AH.two 14 15 (by kernel_rfl) rfl rfl rfl rfl ?_ ?_
            · refine OW.call rfl rfl (rc_func rfl rfl Tryd.call10) (of_spec _ _ _ _ _) ?_
              rintro _ wv223 ⟨rfl, hE224⟩
              refine .inl ⟨_, rfl, ?_⟩
              replace hB58 := hB58.ext hE224
              replace hB60 := hB60.ext hE224
              have hS225 := hS217.ext hE224
              have hA226 := Ext.trans hA222 hE224
              refine OW.next hS225 ?_
              refine AH.one 15 rfl (by kernel_rfl) rfl ?_
              have hsz232 := hS225.size
              have hlt0_hB20_hB14 := hB20.lt
              have hlt0_hB21_hB14 := hB21.lt
              have hlt0_hB22_hB14 := hB22.lt
              have hlt0_hB10_hB14 := hB10.lt
              have hlt0_hB11_hB14 := hB11.lt
              have hlt0_hB12_hB14 := hB12.lt
              have hlt0_hB13_hB14 := hB13.lt
              have hlt0_hN13_hB14 := hN13.le
              have hsz233 := hEw.size
              refine OW.new (v := (fun nb => .pointer (some ⟨nb, 0, none⟩))) rfl rfl (r_alloc rfl Tryd.zeroValue25) ?_
              intro nb14 wv227 hge230 hlt231 hB14 hE228
              have hlt_hB58_hB14 := Nat.lt_of_lt_of_le hB58.lt hge230
              have hlt_hB60_hB14 := Nat.lt_of_lt_of_le hB60.lt hge230
              replace hB58 := hB58.ext hE228
              replace hB60 := hB60.ext hE228
              replace hB14 : Blk wv227 nb14 _ _ := hB14
              have hS229 := hS225.ext hE228
              have hA234 := Ext.trans hA226 hE228
              refine OW.next hS229 ?_
              refine AH.one 16 rfl (by kernel_rfl) rfl ?_
              refine OW.storeA rfl rfl rfl rfl Tryd.sizeOf25 rfl hB14 ⟨rfl, rfl⟩ ?_
              intro wv235 hn238 hE236
              replace hB58 := hB58.kp hE236 (by omega)
              replace hB60 := hB60.kp hE236 (by omega)
              replace hB14 : Blk wv235 _ _ _ := hn238
              clear hn238
              have hS237 : Kp (fun b => False) wv198 wv235 := hS229.new hE236 (by intro b hb; subst hb; omega)
              refine OW.next hS237 ?_
              refine AH.done (by kernel_rfl) ?_
              replace hG := hG.ext hS237
              replace hB20 := hB20.ext hS237
              replace hB21 := hB21.ext hS237
              replace hB22 := hB22.ext hS237
              replace hB10 := hB10.ext hS237
              replace hB11 := hB11.ext hS237
              replace hB12 := hB12.ext hS237
              replace hB13 := hB13.ext hS237
              replace hN13 := hN13.ext hS237
              replace hT13 := hT13.ext hS237
              replace hEw := hEw.ext hS237
              obtain ⟨N14, hN14, hT14⟩ : ∃ N, Sz N wv235 ∧ Tr wv235 (fun b => b < N) (rightE (o % 12) (p % 12)) (some ⟨nb60, 0, none⟩) 2 := ⟨_, Sz.here wv235, Tr.mk2 hB60 hB60.lt (.nil (by decide)) (Tr.mk2 hB58 hB58.lt (.nil (by decide)) (.nil (by decide)))⟩
              have hszq := hEw.size
              have hq0_nb60 : Array.size (World.heap w) ≤ nb60 := by omega
              have hq0_nb14 : Array.size (World.heap w) ≤ nb14 := by omega
              have hq_nb20_nb60 : nb20 < nb60 := by omega
              have hq_nb21_nb60 : nb21 < nb60 := by omega
              have hq_nb22_nb60 : nb22 < nb60 := by omega
              have hq_nb10_nb60 : nb10 < nb60 := by omega
              have hq_nb11_nb60 : nb11 < nb60 := by omega
              have hq_nb12_nb60 : nb12 < nb60 := by omega
              have hq_nb13_nb60 : nb13 < nb60 := by omega
              have hq_nb60_nb14 : nb60 ≠ nb14 := by omega
              have hq_nb20_nb14 : nb20 < nb14 := by omega
              have hq_nb21_nb14 : nb21 < nb14 := by omega
              have hq_nb22_nb14 : nb22 < nb14 := by omega
              have hq_nb10_nb14 : nb10 < nb14 := by omega
              have hq_nb11_nb14 : nb11 < nb14 := by omega
              have hq_nb12_nb14 : nb12 < nb14 := by omega
              have hq_nb13_nb14 : nb13 < nb14 := by omega
              have hall := And.intro hG (And.intro hB20 (And.intro hB21 (And.intro hB22 (And.intro hB10 (And.intro hB11 (And.intro hB12 (And.intro hB13 (And.intro hN13 (And.intro hT13 (And.intro hB14 (And.intro hN14 (And.intro hT14 (And.intro hEw (And.intro hq0_nb60 (And.intro hq0_nb14 (And.intro hq_nb20_nb60 (And.intro hq_nb21_nb60 (And.intro hq_nb22_nb60 (And.intro hq_nb10_nb60 (And.intro hq_nb11_nb60 (And.intro hq_nb12_nb60 (And.intro hq_nb13_nb60 (And.intro hq_nb60_nb14 (And.intro hq_nb20_nb14 (And.intro hq_nb21_nb14 (And.intro hq_nb22_nb14 (And.intro hq_nb10_nb14 (And.intro hq_nb11_nb14 (And.intro hq_nb12_nb14 (hq_nb13_nb14))))))))))))))))))))))))))))))
              apply C.cutA3 nb60 nb14 N14 [4, 6, 7, 8, 9, 13, 14]
              · rfl
              · exact hall
            · have hsz244 := hS217.size
              have hlt0_hB20_hB14 := hB20.lt
              have hlt0_hB21_hB14 := hB21.lt
              have hlt0_hB22_hB14 := hB22.lt
              have hlt0_hB10_hB14 := hB10.lt
              have hlt0_hB11_hB14 := hB11.lt
              have hlt0_hB12_hB14 := hB12.lt
              have hlt0_hB13_hB14 := hB13.lt
              have hlt0_hN13_hB14 := hN13.le
              have hsz245 := hEw.size
              refine OW.new (v := (fun nb => .pointer (some ⟨nb, 0, none⟩))) rfl rfl (r_alloc rfl Tryd.zeroValue25) ?_
              intro nb14 wv239 hge242 hlt243 hB14 hE240
              have hlt_hB58_hB14 := Nat.lt_of_lt_of_le hB58.lt hge242
              have hlt_hB60_hB14 := Nat.lt_of_lt_of_le hB60.lt hge242
              replace hB58 := hB58.ext hE240
              replace hB60 := hB60.ext hE240
              replace hB14 : Blk wv239 nb14 _ _ := hB14
              have hS241 := hS217.ext hE240
              have hA246 := Ext.trans hA222 hE240
              refine OW.next hS241 ?_
              refine AH.one 14 rfl (by kernel_rfl) rfl ?_
              refine OW.call rfl rfl (rc_func rfl rfl Tryd.call10) (of_spec _ _ _ _ _) ?_
              rintro _ wv247 ⟨rfl, hE248⟩
              refine .inl ⟨_, rfl, ?_⟩
              replace hB58 := hB58.ext hE248
              replace hB60 := hB60.ext hE248
              replace hB14 := hB14.ext hE248
              have hS249 := hS241.ext hE248
              have hA250 := Ext.trans hA246 hE248
              refine OW.next hS249 ?_
              refine AH.one 16 rfl (by kernel_rfl) rfl ?_
              refine OW.storeA rfl rfl rfl rfl Tryd.sizeOf25 rfl hB14 ⟨rfl, rfl⟩ ?_
              intro wv251 hn254 hE252
              replace hB58 := hB58.kp hE252 (by omega)
              replace hB60 := hB60.kp hE252 (by omega)
              replace hB14 : Blk wv251 _ _ _ := hn254
              clear hn254
              have hS253 : Kp (fun b => False) wv198 wv251 := hS249.new hE252 (by intro b hb; subst hb; omega)
              refine OW.next hS253 ?_
              refine AH.done (by kernel_rfl) ?_
              replace hG := hG.ext hS253
              replace hB20 := hB20.ext hS253
              replace hB21 := hB21.ext hS253
              replace hB22 := hB22.ext hS253
              replace hB10 := hB10.ext hS253
              replace hB11 := hB11.ext hS253
              replace hB12 := hB12.ext hS253
              replace hB13 := hB13.ext hS253
              replace hN13 := hN13.ext hS253
              replace hT13 := hT13.ext hS253
              replace hEw := hEw.ext hS253
              obtain ⟨N14, hN14, hT14⟩ : ∃ N, Sz N wv251 ∧ Tr wv251 (fun b => b < N) (rightE (o % 12) (p % 12)) (some ⟨nb60, 0, none⟩) 2 := ⟨_, Sz.here wv251, Tr.mk2 hB60 hB60.lt (.nil (by decide)) (Tr.mk2 hB58 hB58.lt (.nil (by decide)) (.nil (by decide)))⟩
              have hszq := hEw.size
              have hq0_nb60 : Array.size (World.heap w) ≤ nb60 := by omega
              have hq0_nb14 : Array.size (World.heap w) ≤ nb14 := by omega
              have hq_nb20_nb60 : nb20 < nb60 := by omega
              have hq_nb21_nb60 : nb21 < nb60 := by omega
              have hq_nb22_nb60 : nb22 < nb60 := by omega
              have hq_nb10_nb60 : nb10 < nb60 := by omega
              have hq_nb11_nb60 : nb11 < nb60 := by omega
              have hq_nb12_nb60 : nb12 < nb60 := by omega
              have hq_nb13_nb60 : nb13 < nb60 := by omega
              have hq_nb60_nb14 : nb60 ≠ nb14 := by omega
              have hq_nb20_nb14 : nb20 < nb14 := by omega
              have hq_nb21_nb14 : nb21 < nb14 := by omega
              have hq_nb22_nb14 : nb22 < nb14 := by omega
              have hq_nb10_nb14 : nb10 < nb14 := by omega
              have hq_nb11_nb14 : nb11 < nb14 := by omega
              have hq_nb12_nb14 : nb12 < nb14 := by omega
              have hq_nb13_nb14 : nb13 < nb14 := by omega
              have hall := And.intro hG (And.intro hB20 (And.intro hB21 (And.intro hB22 (And.intro hB10 (And.intro hB11 (And.intro hB12 (And.intro hB13 (And.intro hN13 (And.intro hT13 (And.intro hB14 (And.intro hN14 (And.intro hT14 (And.intro hEw (And.intro hq0_nb60 (And.intro hq0_nb14 (And.intro hq_nb20_nb60 (And.intro hq_nb21_nb60 (And.intro hq_nb22_nb60 (And.intro hq_nb10_nb60 (And.intro hq_nb11_nb60 (And.intro hq_nb12_nb60 (And.intro hq_nb13_nb60 (And.intro hq_nb60_nb14 (And.intro hq_nb20_nb14 (And.intro hq_nb21_nb14 (And.intro hq_nb22_nb14 (And.intro hq_nb10_nb14 (And.intro hq_nb11_nb14 (And.intro hq_nb12_nb14 (hq_nb13_nb14))))))))))))))))))))))))))))))
              apply C.cutA3 nb60 nb14 N14 [4, 6, 7, 8, 9, 13, 14]
              · rfl
              · exact hall
          · have hsz260 := hS213.size
            have hlt0_hB20_hB14 := hB20.lt
            have hlt0_hB21_hB14 := hB21.lt
            have hlt0_hB22_hB14 := hB22.lt
            have hlt0_hB10_hB14 := hB10.lt
            have hlt0_hB11_hB14 := hB11.lt
            have hlt0_hB12_hB14 := hB12.lt
            have hlt0_hB13_hB14 := hB13.lt
            have hlt0_hN13_hB14 := hN13.le
            have hsz261 := hEw.size
            refine OW.new (v := (fun nb => .pointer (some ⟨nb, 0, none⟩))) rfl rfl (r_alloc rfl Tryd.zeroValue25) ?_
            intro nb14 wv255 hge258 hlt259 hB14 hE256
            have hlt_hB58_hB14 := Nat.lt_of_lt_of_le hB58.lt hge258
            replace hB58 := hB58.ext hE256
            replace hB14 : Blk wv255 nb14 _ _ := hB14
            have hS257 := hS213.ext hE256
            have hA262 := Ext.trans hA214 hE256
            refine OW.next hS257 ?_
            refine AH.one 13 rfl (by kernel_rfl) rfl ?_
            have hsz268 := hS257.size
            have hlt0_hB20_hB60 := hB20.lt
            have hlt0_hB21_hB60 := hB21.lt
            have hlt0_hB22_hB60 := hB22.lt
            have hlt0_hB10_hB60 := hB10.lt
            have hlt0_hB11_hB60 := hB11.lt
            have hlt0_hB12_hB60 := hB12.lt
            have hlt0_hB13_hB60 := hB13.lt
            have hlt0_hN13_hB60 := hN13.le
            have hsz269 := hEw.size
            refine OW.new (v := (fun nb => .slice (some ⟨nb, 0, none⟩) 2 2)) rfl rfl (r_buildSlice rfl rfl Tryd.underlying23 Tryd.sizeOf25 Tryd.zeroValue25 rfl rfl rfl rfl rfl) ?_
            intro nb60 wv263 hge266 hlt267 hB60 hE264
            have hlt_hB58_hB60 := Nat.lt_of_lt_of_le hB58.lt hge266
            have hlt_hB14_hB60 := Nat.lt_of_lt_of_le hB14.lt hge266
            replace hB58 := hB58.ext hE264
            replace hB14 := hB14.ext hE264
            replace hB60 : Blk wv263 nb60 _ _ := hB60
            have hS265 := hS257.ext hE264
            have hA270 := Ext.trans hA262 hE264
            refine OW.next hS265 ?_
            refine AH.one 14 rfl (by kernel_rfl) rfl ?_
            refine OW.call rfl rfl (rc_func rfl rfl Tryd.call10) (of_spec _ _ _ _ _) ?_
            rintro _ wv271 ⟨rfl, hE272⟩
            refine .inl ⟨_, rfl, ?_⟩
            replace hB58 := hB58.ext hE272
            replace hB14 := hB14.ext hE272
            replace hB60 := hB60.ext hE272
            have hS273 := hS265.ext hE272
            have hA274 := Ext.trans hA270 hE272
            refine OW.next hS273 ?_
            refine AH.one 16 rfl (by kernel_rfl) rfl ?_
            refine OW.storeA rfl rfl rfl rfl Tryd.sizeOf25 rfl hB14 ⟨rfl, rfl⟩ ?_
            intro wv275 hn278 hE276
            replace hB58 := hB58.kp hE276 (by omega)
            replace hB60 := hB60.kp hE276 (by omega)
            replace hB14 : Blk wv275 _ _ _ := hn278
            clear hn278
            have hS277 : Kp (fun b => False) wv198 wv275 := hS273.new hE276 (by intro b hb; subst hb; omega)
            refine OW.next hS277 ?_
            refine AH.done (by kernel_rfl) ?_
            replace hG := hG.ext hS277
            replace hB20 := hB20.ext hS277
            replace hB21 := hB21.ext hS277
            replace hB22 := hB22.ext hS277
            replace hB10 := hB10.ext hS277
            replace hB11 := hB11.ext hS277
            replace hB12 := hB12.ext hS277
            replace hB13 := hB13.ext hS277
            replace hN13 := hN13.ext hS277
            replace hT13 := hT13.ext hS277
            replace hEw := hEw.ext hS277
            obtain ⟨N14, hN14, hT14⟩ : ∃ N, Sz N wv275 ∧ Tr wv275 (fun b => b < N) (rightE (o % 12) (p % 12)) (some ⟨nb60, 0, none⟩) 2 := ⟨_, Sz.here wv275, Tr.mk2 hB60 hB60.lt (.nil (by decide)) (Tr.mk2 hB58 hB58.lt (.nil (by decide)) (.nil (by decide)))⟩
            have hszq := hEw.size
            have hq0_nb60 : Array.size (World.heap w) ≤ nb60 := by omega
            have hq0_nb14 : Array.size (World.heap w) ≤ nb14 := by omega
            have hq_nb20_nb60 : nb20 < nb60 := by omega
            have hq_nb21_nb60 : nb21 < nb60 := by omega
            have hq_nb22_nb60 : nb22 < nb60 := by omega
            have hq_nb10_nb60 : nb10 < nb60 := by omega
            have hq_nb11_nb60 : nb11 < nb60 := by omega
            have hq_nb12_nb60 : nb12 < nb60 := by omega
            have hq_nb13_nb60 : nb13 < nb60 := by omega
            have hq_nb60_nb14 : nb60 ≠ nb14 := by omega
            have hq_nb20_nb14 : nb20 < nb14 := by omega
            have hq_nb21_nb14 : nb21 < nb14 := by omega
            have hq_nb22_nb14 : nb22 < nb14 := by omega
            have hq_nb10_nb14 : nb10 < nb14 := by omega
            have hq_nb11_nb14 : nb11 < nb14 := by omega
            have hq_nb12_nb14 : nb12 < nb14 := by omega
            have hq_nb13_nb14 : nb13 < nb14 := by omega
            have hall := And.intro hG (And.intro hB20 (And.intro hB21 (And.intro hB22 (And.intro hB10 (And.intro hB11 (And.intro hB12 (And.intro hB13 (And.intro hN13 (And.intro hT13 (And.intro hB14 (And.intro hN14 (And.intro hT14 (And.intro hEw (And.intro hq0_nb60 (And.intro hq0_nb14 (And.intro hq_nb20_nb60 (And.intro hq_nb21_nb60 (And.intro hq_nb22_nb60 (And.intro hq_nb10_nb60 (And.intro hq_nb11_nb60 (And.intro hq_nb12_nb60 (And.intro hq_nb13_nb60 (And.intro hq_nb60_nb14 (And.intro hq_nb20_nb14 (And.intro hq_nb21_nb14 (And.intro hq_nb22_nb14 (And.intro hq_nb10_nb14 (And.intro hq_nb11_nb14 (And.intro hq_nb12_nb14 (hq_nb13_nb14))))))))))))))))))))))))))))))
            apply C.cutA3 nb60 nb14 N14 [4, 6, 7, 8, 9, 13, 14]
            · rfl
            · exact hall
        · have hsz284 := hS205.size
          have hlt0_hB20_hB14 := hB20.lt
          have hlt0_hB21_hB14 := hB21.lt
          have hlt0_hB22_hB14 := hB22.lt
          have hlt0_hB10_hB14 := hB10.lt
          have hlt0_hB11_hB14 := hB11.lt
          have hlt0_hB12_hB14 := hB12.lt
          have hlt0_hB13_hB14 := hB13.lt
          have hlt0_hN13_hB14 := hN13.le
          have hsz285 := hEw.size
          refine OW.new (v := (fun nb => .pointer (some ⟨nb, 0, none⟩))) rfl rfl (r_alloc rfl Tryd.zeroValue25) ?_
          intro nb14 wv279 hge282 hlt283 hB14 hE280
          have hlt_hB58_hB14 := Nat.lt_of_lt_of_le hB58.lt hge282
          replace hB58 := hB58.ext hE280
          replace hB14 : Blk wv279 nb14 _ _ := hB14
          have hS281 := hS205.ext hE280
          have hA286 := Ext.trans hA210 hE280
          refine OW.next hS281 ?_
          refine AH.one 12 rfl (by kernel_rfl) rfl ?_
          refine OW.call rfl rfl (rc_func rfl rfl Tryd.call10) (of_spec _ _ _ _ _) ?_
          rintro _ wv287 ⟨rfl, hE288⟩
          refine .inl ⟨_, rfl, ?_⟩
          replace hB58 := hB58.ext hE288
          replace hB14 := hB14.ext hE288
          have hS289 := hS281.ext hE288
          have hA290 := Ext.trans hA286 hE288
          refine OW.next hS289 ?_
          refine AH.one 13 rfl (by kernel_rfl) rfl ?_
          have hsz296 := hS289.size
          have hlt0_hB20_hB60 := hB20.lt
          have hlt0_hB21_hB60 := hB21.lt
          have hlt0_hB22_hB60 := hB22.lt
          have hlt0_hB10_hB60 := hB10.lt
          have hlt0_hB11_hB60 := hB11.lt
          have hlt0_hB12_hB60 := hB12.lt
          have hlt0_hB13_hB60 := hB13.lt
          have hlt0_hN13_hB60 := hN13.le
          have hsz297 := hEw.size
          refine OW.new (v := (fun nb => .slice (some ⟨nb, 0, none⟩) 2 2)) rfl rfl (r_buildSlice rfl rfl Tryd.underlying23 Tryd.sizeOf25 Tryd.zeroValue25 rfl rfl rfl rfl rfl) ?_
          intro nb60 wv291 hge294 hlt295 hB60 hE292
          have hlt_hB58_hB60 := Nat.lt_of_lt_of_le hB58.lt hge294
          have hlt_hB14_hB60 := Nat.lt_of_lt_of_le hB14.lt hge294
          replace hB58 := hB58.ext hE292
          replace hB14 := hB14.ext hE292
          replace hB60 : Blk wv291 nb60 _ _ := hB60
          have hS293 := hS289.ext hE292
          have hA298 := Ext.trans hA290 hE292
          refine OW.next hS293 ?_
          refine AH.one 14 rfl (by kernel_rfl) rfl ?_
          refine OW.call rfl rfl (rc_func rfl rfl Tryd.call10) (of_spec _ _ _ _ _) ?_
          rintro _ wv299 ⟨rfl, hE300⟩
          refine .inl ⟨_, rfl, ?_⟩
          replace hB58 := hB58.ext hE300
          replace hB14 := hB14.ext hE300
          replace hB60 := hB60.ext hE300
          have hS301 := hS293.ext hE300
          have hA302 := Ext.trans hA298 hE300
          refine OW.next hS301 ?_
          refine AH.one 16 rfl (by kernel_rfl) rfl ?_
          refine OW.storeA rfl rfl rfl rfl Tryd.sizeOf25 rfl hB14 ⟨rfl, rfl⟩ ?_
          intro wv303 hn306 hE304
          replace hB58 := hB58.kp hE304 (by omega)
          replace hB60 := hB60.kp hE304 (by omega)
          replace hB14 : Blk wv303 _ _ _ := hn306
          clear hn306
          have hS305 : Kp (fun b => False) wv198 wv303 := hS301.new hE304 (by intro b hb; subst hb; omega)
          refine OW.next hS305 ?_
          refine AH.done (by kernel_rfl) ?_
          replace hG := hG.ext hS305
          replace hB20 := hB20.ext hS305
          replace hB21 := hB21.ext hS305
          replace hB22 := hB22.ext hS305
          replace hB10 := hB10.ext hS305
          replace hB11 := hB11.ext hS305
          replace hB12 := hB12.ext hS305
          replace hB13 := hB13.ext hS305
          replace hN13 := hN13.ext hS305
          replace hT13 := hT13.ext hS305
          replace hEw := hEw.ext hS305
          obtain ⟨N14, hN14, hT14⟩ : ∃ N, Sz N wv303 ∧ Tr wv303 (fun b => b < N) (rightE (o % 12) (p % 12)) (some ⟨nb60, 0, none⟩) 2 := ⟨_, Sz.here wv303, Tr.mk2 hB60 hB60.lt (.nil (by decide)) (Tr.mk2 hB58 hB58.lt (.nil (by decide)) (.nil (by decide)))⟩
          have hszq := hEw.size
          have hq0_nb60 : Array.size (World.heap w) ≤ nb60 := by omega
          have hq0_nb14 : Array.size (World.heap w) ≤ nb14 := by omega
          have hq_nb20_nb60 : nb20 < nb60 := by omega
          have hq_nb21_nb60 : nb21 < nb60 := by omega
          have hq_nb22_nb60 : nb22 < nb60 := by omega
          have hq_nb10_nb60 : nb10 < nb60 := by omega
          have hq_nb11_nb60 : nb11 < nb60 := by omega
          have hq_nb12_nb60 : nb12 < nb60 := by omega
          have hq_nb13_nb60 : nb13 < nb60 := by omega
          have hq_nb60_nb14 : nb60 ≠ nb14 := by omega
          have hq_nb20_nb14 : nb20 < nb14 := by omega
          have hq_nb21_nb14 : nb21 < nb14 := by omega
          have hq_nb22_nb14 : nb22 < nb14 := by omega
          have hq_nb10_nb14 : nb10 < nb14 := by omega
          have hq_nb11_nb14 : nb11 < nb14 := by omega
          have hq_nb12_nb14 : nb12 < nb14 := by omega
          have hq_nb13_nb14 : nb13 < nb14 := by omega
          have hall := And.intro hG (And.intro hB20 (And.intro hB21 (And.intro hB22 (And.intro hB10 (And.intro hB11 (And.intro hB12 (And.intro hB13 (And.intro hN13 (And.intro hT13 (And.intro hB14 (And.intro hN14 (And.intro hT14 (And.intro hEw (And.intro hq0_nb60 (And.intro hq0_nb14 (And.intro hq_nb20_nb60 (And.intro hq_nb21_nb60 (And.intro hq_nb22_nb60 (And.intro hq_nb10_nb60 (And.intro hq_nb11_nb60 (And.intro hq_nb12_nb60 (And.intro hq_nb13_nb60 (And.intro hq_nb60_nb14 (And.intro hq_nb20_nb14 (And.intro hq_nb21_nb14 (And.intro hq_nb22_nb14 (And.intro hq_nb10_nb14 (And.intro hq_nb11_nb14 (And.intro hq_nb12_nb14 (hq_nb13_nb14))))))))))))))))))))))))))))))
          apply C.cutA3 nb60 nb14 N14 [4, 6, 7, 8, 9, 13, 14]
          · rfl
          · exact hall
      · have hsz312 := hS202.size
        have hlt0_hB20_hB14 := hB20.lt
        have hlt0_hB21_hB14 := hB21.lt
        have hlt0_hB22_hB14 := hB22.lt
        have hlt0_hB10_hB14 := hB10.lt
        have hlt0_hB11_hB14 := hB11.lt
        have hlt0_hB12_hB14 := hB12.lt
        have hlt0_hB13_hB14 := hB13.lt
        have hlt0_hN13_hB14 := hN13.le
        have hsz313 := hEw.size
        refine OW.new (v := (fun nb => .pointer (some ⟨nb, 0, none⟩))) rfl rfl (r_alloc rfl Tryd.zeroValue25) ?_
        intro nb14 wv307 hge310 hlt311 hB14 hE308
        replace hB14 : Blk wv307 nb14 _ _ := hB14
        have hS309 := hS202.ext hE308
        have hA314 := Ext.trans hE201 hE308
        refine OW.next hS309 ?_
        refine AH.one 11 rfl (by kernel_rfl) rfl ?_
        have hsz320 := hS309.size
        have hlt0_hB20_hB58 := hB20.lt
        have hlt0_hB21_hB58 := hB21.lt
        have hlt0_hB22_hB58 := hB22.lt
        have hlt0_hB10_hB58 := hB10.lt
        have hlt0_hB11_hB58 := hB11.lt
        have hlt0_hB12_hB58 := hB12.lt
        have hlt0_hB13_hB58 := hB13.lt
        have hlt0_hN13_hB58 := hN13.le
        have hsz321 := hEw.size
        refine OW.new (v := (fun nb => .slice (some ⟨nb, 0, none⟩) 2 2)) rfl rfl (r_buildSlice rfl rfl Tryd.underlying23 Tryd.sizeOf25 Tryd.zeroValue25 rfl rfl rfl rfl rfl) ?_
        intro nb58 wv315 hge318 hlt319 hB58 hE316
        have hlt_hB14_hB58 := Nat.lt_of_lt_of_le hB14.lt hge318
        replace hB14 := hB14.ext hE316
        replace hB58 : Blk wv315 nb58 _ _ := hB58
        have hS317 := hS309.ext hE316
        have hA322 := Ext.trans hA314 hE316
        refine OW.next hS317 ?_
        refine AH.one 12 rfl (by kernel_rfl) rfl ?_
        refine OW.call rfl rfl (rc_func rfl rfl Tryd.call10) (of_spec _ _ _ _ _) ?_
        rintro _ wv323 ⟨rfl, hE324⟩
        refine .inl ⟨_, rfl, ?_⟩
        replace hB14 := hB14.ext hE324
        replace hB58 := hB58.ext hE324
        have hS325 := hS317.ext hE324
        have hA326 := Ext.trans hA322 hE324
        refine OW.next hS325 ?_
        refine AH.one 13 rfl (by kernel_rfl) rfl ?_
        have hsz332 := hS325.size
        have hlt0_hB20_hB60 := hB20.lt
        have hlt0_hB21_hB60 := hB21.lt
        have hlt0_hB22_hB60 := hB22.lt
        have hlt0_hB10_hB60 := hB10.lt
        have hlt0_hB11_hB60 := hB11.lt
        have hlt0_hB12_hB60 := hB12.lt
        have hlt0_hB13_hB60 := hB13.lt
        have hlt0_hN13_hB60 := hN13.le
        have hsz333 := hEw.size
        refine OW.new (v := (fun nb => .slice (some ⟨nb, 0, none⟩) 2 2)) rfl rfl (r_buildSlice rfl rfl Tryd.underlying23 Tryd.sizeOf25 Tryd.zeroValue25 rfl rfl rfl rfl rfl) ?_
        intro nb60 wv327 hge330 hlt331 hB60 hE328
        have hlt_hB14_hB60 := Nat.lt_of_lt_of_le hB14.lt hge330
        have hlt_hB58_hB60 := Nat.lt_of_lt_of_le hB58.lt hge330
        replace hB14 := hB14.ext hE328
        replace hB58 := hB58.ext hE328
        replace hB60 : Blk wv327 nb60 _ _ := hB60
        have hS329 := hS325.ext hE328
        have hA334 := Ext.trans hA326 hE328
        refine OW.next hS329 ?_
        refine AH.one 14 rfl (by kernel_rfl) rfl ?_
        refine OW.call rfl rfl (rc_func rfl rfl Tryd.call10) (of_spec _ _ _ _ _) ?_
        rintro _ wv335 ⟨rfl, hE336⟩
        refine .inl ⟨_, rfl, ?_⟩
        replace hB14 := hB14.ext hE336
        replace hB58 := hB58.ext hE336
        replace hB60 := hB60.ext hE336
        have hS337 := hS329.ext hE336
        have hA338 := Ext.trans hA334 hE336
        refine OW.next hS337 ?_
        refine AH.one 16 rfl (by kernel_rfl) rfl ?_
        refine OW.storeA rfl rfl rfl rfl Tryd.sizeOf25 rfl hB14 ⟨rfl, rfl⟩ ?_
        intro wv339 hn342 hE340
        replace hB58 := hB58.kp hE340 (by omega)
        replace hB60 := hB60.kp hE340 (by omega)
        replace hB14 : Blk wv339 _ _ _ := hn342
        clear hn342
        have hS341 : Kp (fun b => False) wv198 wv339 := hS337.new hE340 (by intro b hb; subst hb; omega)
        refine OW.next hS341 ?_
        refine AH.done (by kernel_rfl) ?_
        replace hG := hG.ext hS341
        replace hB20 := hB20.ext hS341
        replace hB21 := hB21.ext hS341
        replace hB22 := hB22.ext hS341
        replace hB10 := hB10.ext hS341
        replace hB11 := hB11.ext hS341
        replace hB12 := hB12.ext hS341
        replace hB13 := hB13.ext hS341
        replace hN13 := hN13.ext hS341
        replace hT13 := hT13.ext hS341
        replace hEw := hEw.ext hS341
        obtain ⟨N14, hN14, hT14⟩ : ∃ N, Sz N wv339 ∧ Tr wv339 (fun b => b < N) (rightE (o % 12) (p % 12)) (some ⟨nb60, 0, none⟩) 2 := ⟨_, Sz.here wv339, Tr.mk2 hB60 hB60.lt (.nil (by decide)) (Tr.mk2 hB58 hB58.lt (.nil (by decide)) (.nil (by decide)))⟩
        have hszq := hEw.size
        have hq0_nb60 : Array.size (World.heap w) ≤ nb60 := by omega
        have hq0_nb14 : Array.size (World.heap w) ≤ nb14 := by omega
        have hq_nb20_nb60 : nb20 < nb60 := by omega
        have hq_nb21_nb60 : nb21 < nb60 := by omega
        have hq_nb22_nb60 : nb22 < nb60 := by omega
        have hq_nb10_nb60 : nb10 < nb60 := by omega
        have hq_nb11_nb60 : nb11 < nb60 := by omega
        have hq_nb12_nb60 : nb12 < nb60 := by omega
        have hq_nb13_nb60 : nb13 < nb60 := by omega
        have hq_nb60_nb14 : nb60 ≠ nb14 := by omega
        have hq_nb20_nb14 : nb20 < nb14 := by omega
        have hq_nb21_nb14 : nb21 < nb14 := by omega
        have hq_nb22_nb14 : nb22 < nb14 := by omega
        have hq_nb10_nb14 : nb10 < nb14 := by omega
        have hq_nb11_nb14 : nb11 < nb14 := by omega
        have hq_nb12_nb14 : nb12 < nb14 := by omega
        have hq_nb13_nb14 : nb13 < nb14 := by omega
        have hall := And.intro hG (And.intro hB20 (And.intro hB21 (And.intro hB22 (And.intro hB10 (And.intro hB11 (And.intro hB12 (And.intro hB13 (And.intro hN13 (And.intro hT13 (And.intro hB14 (And.intro hN14 (And.intro hT14 (And.intro hEw (And.intro hq0_nb60 (And.intro hq0_nb14 (And.intro hq_nb20_nb60 (And.intro hq_nb21_nb60 (And.intro hq_nb22_nb60 (And.intro hq_nb10_nb60 (And.intro hq_nb11_nb60 (And.intro hq_nb12_nb60 (And.intro hq_nb13_nb60 (And.intro hq_nb60_nb14 (And.intro hq_nb20_nb14 (And.intro hq_nb21_nb14 (And.intro hq_nb22_nb14 (And.intro hq_nb10_nb14 (And.intro hq_nb11_nb14 (And.intro hq_nb12_nb14 (hq_nb13_nb14))))))))))))))))))))))))))))))
        apply C.cutA3 nb60 nb14 N14 [4, 6, 7, 8, 9, 13, 14]
        · rfl
        · exact hall
    · intro nb60 nb14 N14 wc343 hI
      obtain ⟨hG, hB20, hB21, hB22, hB10, hB11, hB12, hB13, hN13, hT13, hB14, hN14, hT14, hEw, hq0_nb60, hq0_nb14, hq_nb20_nb60, hq_nb21_nb60, hq_nb22_nb60, hq_nb10_nb60, hq_nb11_nb60, hq_nb12_nb60, hq_nb13_nb60, hq_nb60_nb14, hq_nb20_nb14, hq_nb21_nb14, hq_nb22_nb14, hq_nb10_nb14, hq_nb11_nb14, hq_nb12_nb14, hq_nb13_nb14⟩ := hI
      refine W.seq ?_
      refine W.quiet mixed (by kernel_rfl) ?_
      refine QZ.op rfl rfl rfl (fun w' hE => r_move rfl rfl) ?_
      refine QZ.op rfl rfl rfl (fun w' hE => r_move rfl rfl) ?_
      refine QZ.op rfl rfl rfl (fun w' hE => r_indexAddr rfl rfl rfl Tryd.underlying50 Tryd.sizeOf9 rfl (Nat.mod_lt _ (by decide))) ?_
      refine QZ.op rfl rfl rfl (fun w' hE => r_load rfl rfl Tryd.isAgg9 (hE.cell (by first | exact hB14.cell rfl | exact hB13.cell rfl | exact hB12.cell rfl | exact hB11.cell rfl | exact hB10.cell rfl | exact hB22.cell rfl | exact hB21.cell rfl | exact hB20.cell rfl | exact hB22.cell (ranksK_at _ (Nat.mod_lt _ (by decide))) | exact hB21.cell (signsK_at _ (Nat.mod_lt _ (by decide))) | exact hB20.cell (opsK_at _ (Nat.mod_lt _ (by decide))) | assumption))) ?_
      refine QZ.op rfl rfl rfl (fun w' hE => r_addStr rfl rfl rfl (by have h1 := signK_size (o % 12); have h2 := signK_size (p % 12); simp only [ByteArray.size_append, szP1, szP2, szP3, szF1, szF2, szS2, szS3]; omega)) ?_
      refine QZ.op rfl rfl rfl (fun w' hE => r_addStr rfl rfl rfl (by have h1 := signK_size (o % 12); have h2 := signK_size (p % 12); simp only [ByteArray.size_append, szP1, szP2, szP3, szF1, szF2, szS2, szS3]; omega)) ?_
      refine QZ.op rfl rfl rfl (fun w' hE => r_move rfl rfl) ?_
      refine QZ.op rfl rfl rfl (fun w' hE => r_move rfl rfl) ?_
      refine QZ.op rfl rfl rfl (fun w' hE => r_indexAddr rfl rfl rfl Tryd.underlying50 Tryd.sizeOf9 rfl (Nat.mod_lt _ (by decide))) ?_
      refine QZ.op rfl rfl rfl (fun w' hE => r_load rfl rfl Tryd.isAgg9 (hE.cell (by first | exact hB14.cell rfl | exact hB13.cell rfl | exact hB12.cell rfl | exact hB11.cell rfl | exact hB10.cell rfl | exact hB22.cell rfl | exact hB21.cell rfl | exact hB20.cell rfl | exact hB22.cell (ranksK_at _ (Nat.mod_lt _ (by decide))) | exact hB21.cell (signsK_at _ (Nat.mod_lt _ (by decide))) | exact hB20.cell (opsK_at _ (Nat.mod_lt _ (by decide))) | assumption))) ?_
      refine QZ.op rfl rfl rfl (fun w' hE => r_addStr rfl rfl rfl (by have h1 := signK_size (o % 12); have h2 := signK_size (p % 12); simp only [ByteArray.size_append, szP1, szP2, szP3, szF1, szF2, szS2, szS3]; omega)) ?_
      refine QZ.op rfl rfl rfl (fun w' hE => r_addStr rfl rfl rfl (by have h1 := signK_size (o % 12); have h2 := signK_size (p % 12); simp only [ByteArray.size_append, szP1, szP2, szP3, szF1, szF2, szS2, szS3]; omega)) ?_
      refine QZ.op rfl rfl rfl (fun w' hE => r_assign rfl rfl) ?_
      refine QZ.nil ?_
      intro wv344 hE345
      replace hG := hG.ext hE345
      replace hB20 := hB20.ext hE345
      replace hB21 := hB21.ext hE345
      replace hB22 := hB22.ext hE345
      replace hB10 := hB10.ext hE345
      replace hB11 := hB11.ext hE345
      replace hB12 := hB12.ext hE345
      replace hB13 := hB13.ext hE345
      replace hN13 := hN13.ext hE345
      replace hT13 := hT13.ext hE345
      replace hB14 := hB14.ext hE345
      replace hN14 := hN14.ext hE345
      replace hT14 := hT14.ext hE345
      replace hEw := hEw.ext hE345
      refine C.code ?_
      refine W.seq ?_
      refine W.quiet mixed (by kernel_rfl) ?_
      refine QZ.op rfl rfl rfl (fun w' hE => r_move rfl rfl) ?_
      refine QZ.op rfl rfl rfl (fun w' hE => r_move rfl rfl) ?_
      refine QZ.op rfl rfl rfl (fun w' hE => r_indexAddr rfl rfl rfl Tryd.underlying50 Tryd.sizeOf9 rfl (Nat.mod_lt _ (by decide))) ?_
      refine QZ.op rfl rfl rfl (fun w' hE => r_load rfl rfl Tryd.isAgg9 (hE.cell (by first | exact hB14.cell rfl | exact hB13.cell rfl | exact hB12.cell rfl | exact hB11.cell rfl | exact hB10.cell rfl | exact hB22.cell rfl | exact hB21.cell rfl | exact hB20.cell rfl | exact hB22.cell (ranksK_at _ (Nat.mod_lt _ (by decide))) | exact hB21.cell (signsK_at _ (Nat.mod_lt _ (by decide))) | exact hB20.cell (opsK_at _ (Nat.mod_lt _ (by decide))) | assumption))) ?_
      refine QZ.op rfl rfl rfl (fun w' hE => r_addStr rfl rfl rfl (by have h1 := signK_size (o % 12); have h2 := signK_size (p % 12); simp only [ByteArray.size_append, szP1, szP2, szP3, szF1, szF2, szS2, szS3]; omega)) ?_
      refine QZ.op rfl rfl rfl (fun w' hE => r_addStr rfl rfl rfl (by have h1 := signK_size (o % 12); have h2 := signK_size (p % 12); simp only [ByteArray.size_append, szP1, szP2, szP3, szF1, szF2, szS2, szS3]; omega)) ?_
      refine QZ.op rfl rfl rfl (fun w' hE => r_move rfl rfl) ?_
      refine QZ.op rfl rfl rfl (fun w' hE => r_move rfl rfl) ?_
      refine QZ.op rfl rfl rfl (fun w' hE => r_indexAddr rfl rfl rfl Tryd.underlying50 Tryd.sizeOf9 rfl (Nat.mod_lt _ (by decide))) ?_
      refine QZ.op rfl rfl rfl (fun w' hE => r_load rfl rfl Tryd.isAgg9 (hE.cell (by first | exact hB14.cell rfl | exact hB13.cell rfl | exact hB12.cell rfl | exact hB11.cell rfl | exact hB10.cell rfl | exact hB22.cell rfl | exact hB21.cell rfl | exact hB20.cell rfl | exact hB22.cell (ranksK_at _ (Nat.mod_lt _ (by decide))) | exact hB21.cell (signsK_at _ (Nat.mod_lt _ (by decide))) | exact hB20.cell (opsK_at _ (Nat.mod_lt _ (by decide))) | assumption))) ?_
      refine QZ.op rfl rfl rfl (fun w' hE => r_addStr rfl rfl rfl (by have h1 := signK_size (o % 12); have h2 := signK_size (p % 12); simp only [ByteArray.size_append, szP1, szP2, szP3, szF1, szF2, szS2, szS3]; omega)) ?_
      refine QZ.op rfl rfl rfl (fun w' hE => r_addStr rfl rfl rfl (by have h1 := signK_size (o % 12); have h2 := signK_size (p % 12); simp only [ByteArray.size_append, szP1, szP2, szP3, szF1, szF2, szS2, szS3]; omega)) ?_
      refine QZ.op rfl rfl rfl (fun w' hE => r_assign rfl rfl) ?_
      refine QZ.nil ?_
      intro wv346 hE347
      replace hG := hG.ext hE347
      replace hB20 := hB20.ext hE347
      replace hB21 := hB21.ext hE347
      replace hB22 := hB22.ext hE347
      replace hB10 := hB10.ext hE347
      replace hB11 := hB11.ext hE347
      replace hB12 := hB12.ext hE347
      replace hB13 := hB13.ext hE347
      replace hN13 := hN13.ext hE347
      replace hT13 := hT13.ext hE347
      replace hB14 := hB14.ext hE347
      replace hN14 := hN14.ext hE347
      replace hT14 := hT14.ext hE347
      replace hEw := hEw.ext hE347
      refine C.code ?_
      refine W.seq ?_
      refine W.quiet mixed (by kernel_rfl) ?_
      refine QZ.op rfl rfl rfl (fun w' hE => r_move rfl rfl) ?_
      refine QZ.op rfl rfl rfl (fun w' hE => r_move rfl rfl) ?_
      refine QZ.op rfl rfl rfl (fun w' hE => r_indexAddr rfl rfl rfl Tryd.underlying50 Tryd.sizeOf9 rfl (Nat.mod_lt _ (by decide))) ?_
      refine QZ.op rfl rfl rfl (fun w' hE => r_load rfl rfl Tryd.isAgg9 (hE.cell (by first | exact hB14.cell rfl | exact hB13.cell rfl | exact hB12.cell rfl | exact hB11.cell rfl | exact hB10.cell rfl | exact hB22.cell rfl | exact hB21.cell rfl | exact hB20.cell rfl | exact hB22.cell (ranksK_at _ (Nat.mod_lt _ (by decide))) | exact hB21.cell (signsK_at _ (Nat.mod_lt _ (by decide))) | exact hB20.cell (opsK_at _ (Nat.mod_lt _ (by decide))) | assumption))) ?_
      refine QZ.op rfl rfl rfl (fun w' hE => r_addStr rfl rfl rfl (by have h1 := signK_size (o % 12); have h2 := signK_size (p % 12); simp only [ByteArray.size_append, szP1, szP2, szP3, szF1, szF2, szS2, szS3]; omega)) ?_
      refine QZ.op rfl rfl rfl (fun w' hE => r_addStr rfl rfl rfl (by have h1 := signK_size (o % 12); have h2 := signK_size (p % 12); simp only [ByteArray.size_append, szP1, szP2, szP3, szF1, szF2, szS2, szS3]; omega)) ?_
      refine QZ.op rfl rfl rfl (fun w' hE => r_move rfl rfl) ?_
      refine QZ.op rfl rfl rfl (fun w' hE => r_move rfl rfl) ?_
      refine QZ.op rfl rfl rfl (fun w' hE => r_indexAddr rfl rfl rfl Tryd.underlying50 Tryd.sizeOf9 rfl (Nat.mod_lt _ (by decide))) ?_
      refine QZ.op rfl rfl rfl (fun w' hE => r_load rfl rfl Tryd.isAgg9 (hE.cell (by first | exact hB14.cell rfl | exact hB13.cell rfl | exact hB12.cell rfl | exact hB11.cell rfl | exact hB10.cell rfl | exact hB22.cell rfl | exact hB21.cell rfl | exact hB20.cell rfl | exact hB22.cell (ranksK_at _ (Nat.mod_lt _ (by decide))) | exact hB21.cell (signsK_at _ (Nat.mod_lt _ (by decide))) | exact hB20.cell (opsK_at _ (Nat.mod_lt _ (by decide))) | assumption))) ?_
      refine QZ.op rfl rfl rfl (fun w' hE => r_addStr rfl rfl rfl (by have h1 := signK_size (o % 12); have h2 := signK_size (p % 12); simp only [ByteArray.size_append, szP1, szP2, szP3, szF1, szF2, szS2, szS3]; omega)) ?_
      refine QZ.op rfl rfl rfl (fun w' hE => r_addStr rfl rfl rfl (by have h1 := signK_size (o % 12); have h2 := signK_size (p % 12); simp only [ByteArray.size_append, szP1, szP2, szP3, szF1, szF2, szS2, szS3]; omega)) ?_
      refine QZ.op rfl rfl rfl (fun w' hE => r_assign rfl rfl) ?_
      refine QZ.nil ?_
      intro wv348 hE349
      replace hG := hG.ext hE349
      replace hB20 := hB20.ext hE349
      replace hB21 := hB21.ext hE349
      replace hB22 := hB22.ext hE349
      replace hB10 := hB10.ext hE349
      replace hB11 := hB11.ext hE349
      replace hB12 := hB12.ext hE349
      replace hB13 := hB13.ext hE349
      replace hN13 := hN13.ext hE349
      replace hT13 := hT13.ext hE349
      replace hB14 := hB14.ext hE349
      replace hN14 := hN14.ext hE349
      replace hT14 := hT14.ext hE349
      replace hEw := hEw.ext hE349
      refine C.code ?_
      apply W.cutA0
      · refine W.fresh ?_
        intro wv350 hE351
        replace hG := hG.ext hE351
        replace hB20 := hB20.ext hE351
        replace hB21 := hB21.ext hE351
        replace hB22 := hB22.ext hE351
        replace hB10 := hB10.ext hE351
        replace hB11 := hB11.ext hE351
        replace hB12 := hB12.ext hE351
        replace hB13 := hB13.ext hE351
        replace hN13 := hN13.ext hE351
        replace hT13 := hT13.ext hE351
        replace hB14 := hB14.ext hE351
        replace hN14 := hN14.ext hE351
        replace hT14 := hT14.ext hE351
        replace hEw := hEw.ext hE351
        refine W.seq ?_
        refine W.region ?_
        refine SQ.op rfl rfl rfl (r_move rfl rfl) ?_
        refine SQ.op rfl rfl rfl (r_move rfl rfl) ?_
        refine SQ.op rfl rfl rfl (r_indexAddr rfl rfl rfl Tryd.underlying51 Tryd.sizeOf3 rfl (Nat.mod_lt _ (by decide))) ?_
        refine SQ.op rfl rfl rfl (r_load rfl rfl Tryd.isAgg3 (by first | exact hB14.cell rfl | exact hB13.cell rfl | exact hB12.cell rfl | exact hB11.cell rfl | exact hB10.cell rfl | exact hB22.cell rfl | exact hB21.cell rfl | exact hB20.cell rfl | exact hB22.cell (ranksK_at _ (Nat.mod_lt _ (by decide))) | exact hB21.cell (signsK_at _ (Nat.mod_lt _ (by decide))) | exact hB20.cell (opsK_at _ (Nat.mod_lt _ (by decide))) | assumption)) ?_
        refine SQ.op rfl rfl rfl (r_eqlInt rfl rfl rfl) ?_
        refine SQ.opB rfl rfl rfl (r_move rfl rfl) ?_ ?_
        · intro hb14_5
          try simp only [decide_eq_true_eq, decide_eq_false_iff_not, Bool.not_eq_true', Bool.not_eq_false', Bool.not_true, Bool.not_false, Bool.not_eq_true, Bool.not_eq_false] at hb14_5
          refine SQ.guarded rfl rfl rfl rfl rfl ?_
          refine SQ.op rfl rfl rfl (r_move rfl rfl) ?_
          refine SQ.guarded rfl rfl rfl rfl rfl ?_
          refine SQ.op rfl rfl rfl (r_move rfl rfl) ?_
          refine SQ.guarded rfl rfl rfl rfl rfl ?_
          refine SQ.op rfl rfl rfl (r_indexAddr rfl rfl rfl Tryd.underlying51 Tryd.sizeOf3 rfl (Nat.mod_lt _ (by decide))) ?_
          refine SQ.guarded rfl rfl rfl rfl rfl ?_
          refine SQ.op rfl rfl rfl (r_load rfl rfl Tryd.isAgg3 (by first | exact hB14.cell rfl | exact hB13.cell rfl | exact hB12.cell rfl | exact hB11.cell rfl | exact hB10.cell rfl | exact hB22.cell rfl | exact hB21.cell rfl | exact hB20.cell rfl | exact hB22.cell (ranksK_at _ (Nat.mod_lt _ (by decide))) | exact hB21.cell (signsK_at _ (Nat.mod_lt _ (by decide))) | exact hB20.cell (opsK_at _ (Nat.mod_lt _ (by decide))) | assumption)) ?_
          refine SQ.guarded rfl rfl rfl rfl rfl ?_
          refine SQ.op rfl rfl rfl (r_eqlInt rfl rfl rfl) ?_
          refine SQ.op rfl rfl rfl (r_pick_t rfl rfl rfl) ?_
          refine SQ.nil ?_
          refine C.code ?_
          refine W.cond rfl ?_ ?_
          · intro hc352
            try simp only [decide_eq_true_eq, decide_eq_false_iff_not, Bool.not_eq_true', Bool.not_eq_false', Bool.not_true, Bool.not_false, Bool.not_eq_true, Bool.not_eq_false] at hc352
            refine W.seq ?_
            refine W.region ?_
            refine SQ.op rfl rfl rfl (r_move rfl rfl) ?_
            have hq := chk1_at (Nat.mod_lt o (by decide)) (Nat.mod_lt p (by decide)) (by omega) (by omega)
            simp only [chk1, Bool.and_eq_true] at hq
            have hszq := hEw.size
            have hlt354 := hB20.lt
            have hlt355 := hB21.lt
            have hlt356 := hB22.lt
            have hlt357 := hB10.lt
            have hlt358 := hB11.lt
            have hlt359 := hB12.lt
            have hlt360 := hB13.lt
            have hlt361 := hB14.lt
            refine SQ.call rfl rfl rfl (rc_func rfl rfl Tryd.call18) (read_no 200 (plainT (o % 12) (p % 12)) (Nat.le_trans (plainT_size _ _) (by decide)) _ hG (by simp only [Bool.and_eq_true]; exact hq.1)) ?_
            rintro _ wv353 ⟨A', c', rfl, hX, hEr⟩
            refine ⟨_, rfl, ?_⟩
            replace hG := hG.ext hEr
            replace hB20 := hB20.ext hEr
            replace hB21 := hB21.ext hEr
            replace hB22 := hB22.ext hEr
            replace hB10 := hB10.ext hEr
            replace hB11 := hB11.ext hEr
            replace hB12 := hB12.ext hEr
            replace hB13 := hB13.ext hEr
            replace hN13 := hN13.ext hEr
            replace hT13 := hT13.ext hEr
            replace hB14 := hB14.ext hEr
            replace hN14 := hN14.ext hEr
            replace hT14 := hT14.ext hEr
            replace hEw := hEw.ext hEr
            refine SQ.op rfl rfl rfl (r_move rfl rfl) ?_
            refine SQ.op rfl rfl rfl (r_extract rfl rfl rfl) ?_
            refine SQ.op rfl rfl rfl (r_extract rfl rfl rfl) ?_
            have hsz366 := hEw.size
            refine SQ.new (v := (fun nb => .pointer (some ⟨nb, 0, none⟩))) rfl rfl rfl (r_alloc rfl Tryd.zeroValue25) ?_
            intro nb18 wv362 hge363 hlt364 hB18 hE365
            have hge_hG_hB18 := Nat.le_trans hG.size hge363
            have hlt_hB20_hB18 := Nat.lt_of_lt_of_le hB20.lt hge363
            have hlt_hB21_hB18 := Nat.lt_of_lt_of_le hB21.lt hge363
            have hlt_hB22_hB18 := Nat.lt_of_lt_of_le hB22.lt hge363
            have hlt_hB10_hB18 := Nat.lt_of_lt_of_le hB10.lt hge363
            have hlt_hB11_hB18 := Nat.lt_of_lt_of_le hB11.lt hge363
            have hlt_hB12_hB18 := Nat.lt_of_lt_of_le hB12.lt hge363
            have hlt_hB13_hB18 := Nat.lt_of_lt_of_le hB13.lt hge363
            have hge_hN13_hB18 := Nat.le_trans hN13.le hge363
            have hlt_hB14_hB18 := Nat.lt_of_lt_of_le hB14.lt hge363
            have hge_hN14_hB18 := Nat.le_trans hN14.le hge363
            replace hG := hG.ext hE365
            replace hB20 := hB20.ext hE365
            replace hB21 := hB21.ext hE365
            replace hB22 := hB22.ext hE365
            replace hB10 := hB10.ext hE365
            replace hB11 := hB11.ext hE365
            replace hB12 := hB12.ext hE365
            replace hB13 := hB13.ext hE365
            replace hN13 := hN13.ext hE365
            replace hT13 := hT13.ext hE365
            replace hB14 := hB14.ext hE365
            replace hN14 := hN14.ext hE365
            replace hT14 := hT14.ext hE365
            replace hEw := hEw.ext hE365
            replace hB18 : Blk wv362 nb18 _ _ := hB18
            refine SQ.storeA rfl rfl rfl rfl rfl Tryd.sizeOf25 rfl hB18 ⟨rfl, rfl⟩ ?_
            intro wv367 hS369 hK368
            have hsz370 := hK368.size
            replace hG := hG.kp hK368 (by intro b hb hs; omega)
            replace hB20 := hB20.kp hK368 (by omega)
            replace hB21 := hB21.kp hK368 (by omega)
            replace hB22 := hB22.kp hK368 (by omega)
            replace hB10 := hB10.kp hK368 (by omega)
            replace hB11 := hB11.kp hK368 (by omega)
            replace hB12 := hB12.kp hK368 (by omega)
            replace hB13 := hB13.kp hK368 (by omega)
            replace hN13 := hN13.kp hK368 trivial
            replace hT13 := hT13.kp hK368 (by intro b hb hs; omega)
            replace hB14 := hB14.kp hK368 (by omega)
            replace hN14 := hN14.kp hK368 trivial
            replace hT14 := hT14.kp hK368 (by intro b hb hs; omega)
            replace hB18 : Blk wv367 _ _ _ := hS369
            clear hS369
            replace hEw := hEw.new hK368 (by intro b hb; subst hb; omega)
            refine SQ.op rfl rfl rfl (r_assign rfl rfl) ?_
            refine SQ.nil ?_
            refine C.code ?_
            refine W.seq ?_
            refine W.region ?_
            have hsz371 := hEw.size
            refine SQ.call rfl rfl rfl (rc_func rfl rfl Tryd.call7) (alive_spec _ hG) ?_
            rintro _ wv372 ⟨rfl, hE373⟩
            refine ⟨_, rfl, ?_⟩
            replace hG := hG.ext hE373
            replace hB20 := hB20.ext hE373
            replace hB21 := hB21.ext hE373
            replace hB22 := hB22.ext hE373
            replace hB10 := hB10.ext hE373
            replace hB11 := hB11.ext hE373
            replace hB12 := hB12.ext hE373
            replace hB13 := hB13.ext hE373
            replace hN13 := hN13.ext hE373
            replace hT13 := hT13.ext hE373
            replace hB14 := hB14.ext hE373
            replace hN14 := hN14.ext hE373
            replace hT14 := hT14.ext hE373
            replace hB18 := hB18.ext hE373
            replace hEw := hEw.ext hE373
            refine SQ.op rfl rfl rfl (r_move rfl rfl) ?_
            refine SQ.guarded rfl rfl rfl rfl rfl ?_
            refine SQ.op rfl rfl rfl (r_move rfl rfl) ?_
            refine SQ.guarded rfl rfl rfl rfl rfl ?_
            refine SQ.op rfl rfl rfl (r_not rfl rfl) ?_
            refine SQ.op rfl rfl rfl (r_pick_t rfl rfl rfl) ?_
            refine SQ.op rfl rfl rfl (r_move rfl rfl) ?_
            refine SQ.guarded rfl rfl rfl rfl rfl ?_
            refine SQ.op rfl rfl rfl (r_move rfl rfl) ?_
            refine SQ.guarded rfl rfl rfl rfl rfl ?_
            refine SQ.op rfl rfl rfl (r_loadAgg rfl rfl Tryd.isAgg25 Tryd.sizeOf25 rfl (by first | exact hB18.cells | exact hB14.cells | exact hB13.cells | exact hB12.cells | exact hB11.cells | exact hB10.cells | exact hB22.cells | exact hB21.cells | exact hB20.cells | assumption)) ?_
            refine SQ.guarded rfl rfl rfl rfl rfl ?_
            have hsz374 := hEw.size
            refine SQ.call rfl rfl rfl (rc_func rfl rfl Tryd.call19) (is_yes 200 (firstT (o % 12) (p % 12)) (Nat.le_trans (firstT_size _ _) (by decide)) (leftE (o % 12) (p % 12)) _ _ N13 _ hT13 hN13.le hG hq.2.1) ?_
            rintro _ wv375 ⟨rfl, hE376⟩
            refine ⟨_, rfl, ?_⟩
            replace hG := hG.ext hE376
            replace hB20 := hB20.ext hE376
            replace hB21 := hB21.ext hE376
            replace hB22 := hB22.ext hE376
            replace hB10 := hB10.ext hE376
            replace hB11 := hB11.ext hE376
            replace hB12 := hB12.ext hE376
            replace hB13 := hB13.ext hE376
            replace hN13 := hN13.ext hE376
            replace hT13 := hT13.ext hE376
            replace hB14 := hB14.ext hE376
            replace hN14 := hN14.ext hE376
            replace hT14 := hT14.ext hE376
            replace hB18 := hB18.ext hE376
            replace hEw := hEw.ext hE376
            refine SQ.op rfl rfl rfl (r_pick_t rfl rfl rfl) ?_
            refine SQ.op rfl rfl rfl (r_move rfl rfl) ?_
            refine SQ.guarded rfl rfl rfl rfl rfl ?_
            refine SQ.op rfl rfl rfl (r_move rfl rfl) ?_
            refine SQ.guarded rfl rfl rfl rfl rfl ?_
            refine SQ.op rfl rfl rfl (r_loadAgg rfl rfl Tryd.isAgg25 Tryd.sizeOf25 rfl (by first | exact hB18.cells | exact hB14.cells | exact hB13.cells | exact hB12.cells | exact hB11.cells | exact hB10.cells | exact hB22.cells | exact hB21.cells | exact hB20.cells | assumption)) ?_
            refine SQ.guarded rfl rfl rfl rfl rfl ?_
            have hsz377 := hEw.size
            refine SQ.call rfl rfl rfl (rc_func rfl rfl Tryd.call19) (is_yes 200 (secondT (o % 12) (p % 12)) (Nat.le_trans (secondT_size _ _) (by decide)) (rightE (o % 12) (p % 12)) _ _ N14 _ hT14 hN14.le hG hq.2.2) ?_
            rintro _ wv378 ⟨rfl, hE379⟩
            refine ⟨_, rfl, ?_⟩
            replace hG := hG.ext hE379
            replace hB20 := hB20.ext hE379
            replace hB21 := hB21.ext hE379
            replace hB22 := hB22.ext hE379
            replace hB10 := hB10.ext hE379
            replace hB11 := hB11.ext hE379
            replace hB12 := hB12.ext hE379
            replace hB13 := hB13.ext hE379
            replace hN13 := hN13.ext hE379
            replace hT13 := hT13.ext hE379
            replace hB14 := hB14.ext hE379
            replace hN14 := hN14.ext hE379
            replace hT14 := hT14.ext hE379
            replace hB18 := hB18.ext hE379
            replace hEw := hEw.ext hE379
            refine SQ.op rfl rfl rfl (r_pick_t rfl rfl rfl) ?_
            refine SQ.op rfl rfl rfl (r_assign rfl rfl) ?_
            refine SQ.nil ?_
            refine C.code ?_
            refine W.ret ?_
            refine C.ret1 Tryd.results6 rfl ?_
            exact ⟨rfl, hEw⟩
          · intro hc352
            try simp only [decide_eq_true_eq, decide_eq_false_iff_not, Bool.not_eq_true', Bool.not_eq_false', Bool.not_true, Bool.not_false, Bool.not_eq_true, Bool.not_eq_false] at hc352
            refine W.skip ?_
            have hr : ¬ (rankK (o % 12) = 3 ∧ rankK (p % 12) = 3) := by omega
            have hszq := hEw.size
            have hall := And.intro hG (And.intro hB20 (And.intro hB21 (And.intro hB22 (And.intro hB10 (And.intro hB11 (And.intro hB12 (And.intro hB13 (And.intro hN13 (And.intro hT13 (And.intro hB14 (And.intro hN14 (And.intro hT14 (And.intro hEw (hr))))))))))))))
            apply C.cutA0  [4, 7, 8, 9, 13, 14, 15, 16, 17]
            · rfl
            · exact hall
        · intro hb14_5
          try simp only [decide_eq_true_eq, decide_eq_false_iff_not, Bool.not_eq_true', Bool.not_eq_false', Bool.not_true, Bool.not_false, Bool.not_eq_true, Bool.not_eq_false] at hb14_5
          refine SQ.skip rfl rfl rfl rfl rfl rfl rfl ?_
          refine SQ.skip rfl rfl rfl rfl rfl rfl rfl ?_
          refine SQ.skip rfl rfl rfl rfl rfl rfl rfl ?_
          refine SQ.skip rfl rfl rfl rfl rfl rfl rfl ?_
          refine SQ.skip rfl rfl rfl rfl rfl rfl rfl ?_
          refine SQ.op rfl rfl rfl (r_pick_f rfl rfl rfl) ?_
          refine SQ.nil ?_
          refine C.code ?_
          refine W.cond_f rfl ?_
          refine W.skip ?_
          have hr : ¬ (rankK (o % 12) = 3 ∧ rankK (p % 12) = 3) := by omega
          have hszq := hEw.size
          have hall := And.intro hG (And.intro hB20 (And.intro hB21 (And.intro hB22 (And.intro hB10 (And.intro hB11 (And.intro hB12 (And.intro hB13 (And.intro hN13 (And.intro hT13 (And.intro hB14 (And.intro hN14 (And.intro hT14 (And.intro hEw (hr))))))))))))))
          apply C.cutA0  [4, 7, 8, 9, 13, 14, 15, 16, 17]
          · rfl
          · exact hall
      · intro  wc380 hI
        obtain ⟨hG, hB20, hB21, hB22, hB10, hB11, hB12, hB13, hN13, hT13, hB14, hN14, hT14, hEw, hr⟩ := hI
        refine W.seq ?_
        refine W.seq ?_
        refine W.quiet mixed (by kernel_rfl) ?_
        refine QZ.op rfl rfl rfl (fun w' hE => r_move rfl rfl) ?_
        refine QZ.op rfl rfl rfl (fun w' hE => r_move rfl rfl) ?_
        refine QZ.op rfl rfl rfl (fun w' hE => r_indexAddr rfl rfl rfl Tryd.underlying51 Tryd.sizeOf3 rfl (Nat.mod_lt _ (by decide))) ?_
        refine QZ.op rfl rfl rfl (fun w' hE => r_load rfl rfl Tryd.isAgg3 (hE.cell (by first | exact hB14.cell rfl | exact hB13.cell rfl | exact hB12.cell rfl | exact hB11.cell rfl | exact hB10.cell rfl | exact hB22.cell rfl | exact hB21.cell rfl | exact hB20.cell rfl | exact hB22.cell (ranksK_at _ (Nat.mod_lt _ (by decide))) | exact hB21.cell (signsK_at _ (Nat.mod_lt _ (by decide))) | exact hB20.cell (opsK_at _ (Nat.mod_lt _ (by decide))) | assumption))) ?_
        refine QZ.op rfl rfl rfl (fun w' hE => r_move rfl rfl) ?_
        refine QZ.op rfl rfl rfl (fun w' hE => r_move rfl rfl) ?_
        refine QZ.op rfl rfl rfl (fun w' hE => r_indexAddr rfl rfl rfl Tryd.underlying51 Tryd.sizeOf3 rfl (Nat.mod_lt _ (by decide))) ?_
        refine QZ.op rfl rfl rfl (fun w' hE => r_load rfl rfl Tryd.isAgg3 (hE.cell (by first | exact hB14.cell rfl | exact hB13.cell rfl | exact hB12.cell rfl | exact hB11.cell rfl | exact hB10.cell rfl | exact hB22.cell rfl | exact hB21.cell rfl | exact hB20.cell rfl | exact hB22.cell (ranksK_at _ (Nat.mod_lt _ (by decide))) | exact hB21.cell (signsK_at _ (Nat.mod_lt _ (by decide))) | exact hB20.cell (opsK_at _ (Nat.mod_lt _ (by decide))) | assumption))) ?_
        refine QZ.op rfl rfl rfl (fun w' hE => r_gtr rfl rfl rfl) ?_
        refine QZ.opB rfl rfl rfl (fun w' hE => r_move rfl rfl) ?_ ?_
        · intro hb17_9
          try simp only [decide_eq_true_eq, decide_eq_false_iff_not, Bool.not_eq_true', Bool.not_eq_false', Bool.not_true, Bool.not_false, Bool.not_eq_true, Bool.not_eq_false] at hb17_9
          refine QZ.skip rfl rfl rfl rfl rfl rfl rfl ?_
          refine QZ.skip rfl rfl rfl rfl rfl rfl rfl ?_
          refine QZ.skip rfl rfl rfl rfl rfl rfl rfl ?_
          refine QZ.skip rfl rfl rfl rfl rfl rfl rfl ?_
          refine QZ.skip rfl rfl rfl rfl rfl rfl rfl ?_
          refine QZ.skip rfl rfl rfl rfl rfl rfl rfl ?_
          refine QZ.skip rfl rfl rfl rfl rfl rfl rfl ?_
          refine QZ.skip rfl rfl rfl rfl rfl rfl rfl ?_
          refine QZ.skip rfl rfl rfl rfl rfl rfl rfl ?_
          refine QZ.skip rfl rfl rfl rfl rfl rfl rfl ?_
          refine QZ.skipU rfl rfl rfl rfl rfl rfl ?_
          refine QZ.skipU rfl rfl rfl rfl rfl rfl ?_
          refine QZ.skipU rfl rfl rfl rfl rfl rfl ?_
          refine QZ.skipU rfl rfl rfl rfl rfl rfl ?_
          refine QZ.skipU rfl rfl rfl rfl rfl rfl ?_
          refine QZ.skip rfl rfl rfl rfl rfl rfl rfl ?_
          refine QZ.op rfl rfl rfl (fun w' hE => r_pick_t rfl rfl rfl) ?_
          refine QZ.nil ?_
          intro wv381 hE382
          replace hG := hG.ext hE382
          replace hB20 := hB20.ext hE382
          replace hB21 := hB21.ext hE382
          replace hB22 := hB22.ext hE382
          replace hB10 := hB10.ext hE382
          replace hB11 := hB11.ext hE382
          replace hB12 := hB12.ext hE382
          replace hB13 := hB13.ext hE382
          replace hN13 := hN13.ext hE382
          replace hT13 := hT13.ext hE382
          replace hB14 := hB14.ext hE382
          replace hN14 := hN14.ext hE382
          replace hT14 := hT14.ext hE382
          replace hEw := hEw.ext hE382
          refine C.code ?_
          refine W.cond_t rfl ?_
          refine W.seq ?_
          have hr2 : rankK (p % 12) < rankK (o % 12) ∨ (rankK (o % 12) = rankK (p % 12) ∧ 0 < rankK (o % 12)) := by omega
          have hq := chk2_at (Nat.mod_lt o (by decide)) (Nat.mod_lt p (by decide)) hr hr2
          simp only [chk2, Bool.and_eq_true] at hq
          refine W.region ?_
          have hsz383 := hEw.size
          refine SQ.call rfl rfl rfl (rc_func rfl rfl Tryd.call7) (alive_spec _ hG) ?_
          rintro _ wv384 ⟨rfl, hE385⟩
          refine ⟨_, rfl, ?_⟩
          replace hG := hG.ext hE385
          replace hB20 := hB20.ext hE385
          replace hB21 := hB21.ext hE385
          replace hB22 := hB22.ext hE385
          replace hB10 := hB10.ext hE385
          replace hB11 := hB11.ext hE385
          replace hB12 := hB12.ext hE385
          replace hB13 := hB13.ext hE385
          replace hN13 := hN13.ext hE385
          replace hT13 := hT13.ext hE385
          replace hB14 := hB14.ext hE385
          replace hN14 := hN14.ext hE385
          replace hT14 := hT14.ext hE385
          replace hEw := hEw.ext hE385
          refine SQ.op rfl rfl rfl (r_move rfl rfl) ?_
          refine SQ.guarded rfl rfl rfl rfl rfl ?_
          refine SQ.op rfl rfl rfl (r_move rfl rfl) ?_
          refine SQ.guarded rfl rfl rfl rfl rfl ?_
          refine SQ.op rfl rfl rfl (r_loadAgg rfl rfl Tryd.isAgg25 Tryd.sizeOf25 rfl (by first | exact hB14.cells | exact hB13.cells | exact hB12.cells | exact hB11.cells | exact hB10.cells | exact hB22.cells | exact hB21.cells | exact hB20.cells | assumption)) ?_
          refine SQ.guarded rfl rfl rfl rfl rfl ?_
          have hsz386 := hEw.size
          refine SQ.call rfl rfl rfl (rc_func rfl rfl Tryd.call19) (is_yes 200 (plainT (o % 12) (p % 12)) (Nat.le_trans (plainT_size _ _) (by decide)) (leftE (o % 12) (p % 12)) _ _ N13 _ hT13 hN13.le hG hq.1) ?_
          rintro _ wv387 ⟨rfl, hE388⟩
          refine ⟨_, rfl, ?_⟩
          replace hG := hG.ext hE388
          replace hB20 := hB20.ext hE388
          replace hB21 := hB21.ext hE388
          replace hB22 := hB22.ext hE388
          replace hB10 := hB10.ext hE388
          replace hB11 := hB11.ext hE388
          replace hB12 := hB12.ext hE388
          replace hB13 := hB13.ext hE388
          replace hN13 := hN13.ext hE388
          replace hT13 := hT13.ext hE388
          replace hB14 := hB14.ext hE388
          replace hN14 := hN14.ext hE388
          replace hT14 := hT14.ext hE388
          replace hEw := hEw.ext hE388
          refine SQ.op rfl rfl rfl (r_pick_t rfl rfl rfl) ?_
          refine SQ.op rfl rfl rfl (r_move rfl rfl) ?_
          refine SQ.guarded rfl rfl rfl rfl rfl ?_
          refine SQ.op rfl rfl rfl (r_move rfl rfl) ?_
          refine SQ.guarded rfl rfl rfl rfl rfl ?_
          refine SQ.op rfl rfl rfl (r_loadAgg rfl rfl Tryd.isAgg25 Tryd.sizeOf25 rfl (by first | exact hB14.cells | exact hB13.cells | exact hB12.cells | exact hB11.cells | exact hB10.cells | exact hB22.cells | exact hB21.cells | exact hB20.cells | assumption)) ?_
          refine SQ.guarded rfl rfl rfl rfl rfl ?_
          have hsz389 := hEw.size
          refine SQ.call rfl rfl rfl (rc_func rfl rfl Tryd.call19) (is_yes 200 (secondT (o % 12) (p % 12)) (Nat.le_trans (secondT_size _ _) (by decide)) (rightE (o % 12) (p % 12)) _ _ N14 _ hT14 hN14.le hG hq.2) ?_
          rintro _ wv390 ⟨rfl, hE391⟩
          refine ⟨_, rfl, ?_⟩
          replace hG := hG.ext hE391
          replace hB20 := hB20.ext hE391
          replace hB21 := hB21.ext hE391
          replace hB22 := hB22.ext hE391
          replace hB10 := hB10.ext hE391
          replace hB11 := hB11.ext hE391
          replace hB12 := hB12.ext hE391
          replace hB13 := hB13.ext hE391
          replace hN13 := hN13.ext hE391
          replace hT13 := hT13.ext hE391
          replace hB14 := hB14.ext hE391
          replace hN14 := hN14.ext hE391
          replace hT14 := hT14.ext hE391
          replace hEw := hEw.ext hE391
          refine SQ.op rfl rfl rfl (r_pick_t rfl rfl rfl) ?_
          refine SQ.op rfl rfl rfl (r_assign rfl rfl) ?_
          refine SQ.nil ?_
          refine C.code ?_
          refine W.ret ?_
          refine C.ret1 Tryd.results6 rfl ?_
          exact ⟨rfl, hEw⟩
        · intro hb17_9
          try simp only [decide_eq_true_eq, decide_eq_false_iff_not, Bool.not_eq_true', Bool.not_eq_false', Bool.not_true, Bool.not_false, Bool.not_eq_true, Bool.not_eq_false] at hb17_9
          refine QZ.guarded rfl rfl rfl rfl rfl ?_
          refine QZ.op rfl rfl rfl (fun w' hE => r_move rfl rfl) ?_
          refine QZ.guarded rfl rfl rfl rfl rfl ?_
          refine QZ.op rfl rfl rfl (fun w' hE => r_move rfl rfl) ?_
          refine QZ.guarded rfl rfl rfl rfl rfl ?_
          refine QZ.op rfl rfl rfl (fun w' hE => r_indexAddr rfl rfl rfl Tryd.underlying51 Tryd.sizeOf3 rfl (Nat.mod_lt _ (by decide))) ?_
          refine QZ.guarded rfl rfl rfl rfl rfl ?_
          refine QZ.op rfl rfl rfl (fun w' hE => r_load rfl rfl Tryd.isAgg3 (hE.cell (by first | exact hB14.cell rfl | exact hB13.cell rfl | exact hB12.cell rfl | exact hB11.cell rfl | exact hB10.cell rfl | exact hB22.cell rfl | exact hB21.cell rfl | exact hB20.cell rfl | exact hB22.cell (ranksK_at _ (Nat.mod_lt _ (by decide))) | exact hB21.cell (signsK_at _ (Nat.mod_lt _ (by decide))) | exact hB20.cell (opsK_at _ (Nat.mod_lt _ (by decide))) | assumption))) ?_
          refine QZ.guarded rfl rfl rfl rfl rfl ?_
          refine QZ.op rfl rfl rfl (fun w' hE => r_move rfl rfl) ?_
          refine QZ.guarded rfl rfl rfl rfl rfl ?_
          refine QZ.op rfl rfl rfl (fun w' hE => r_move rfl rfl) ?_
          refine QZ.guarded rfl rfl rfl rfl rfl ?_
          refine QZ.op rfl rfl rfl (fun w' hE => r_indexAddr rfl rfl rfl Tryd.underlying51 Tryd.sizeOf3 rfl (Nat.mod_lt _ (by decide))) ?_
          refine QZ.guarded rfl rfl rfl rfl rfl ?_
          refine QZ.op rfl rfl rfl (fun w' hE => r_load rfl rfl Tryd.isAgg3 (hE.cell (by first | exact hB14.cell rfl | exact hB13.cell rfl | exact hB12.cell rfl | exact hB11.cell rfl | exact hB10.cell rfl | exact hB22.cell rfl | exact hB21.cell rfl | exact hB20.cell rfl | exact hB22.cell (ranksK_at _ (Nat.mod_lt _ (by decide))) | exact hB21.cell (signsK_at _ (Nat.mod_lt _ (by decide))) | exact hB20.cell (opsK_at _ (Nat.mod_lt _ (by decide))) | assumption))) ?_
          refine QZ.guarded rfl rfl rfl rfl rfl ?_
          refine QZ.op rfl rfl rfl (fun w' hE => r_eqlInt rfl rfl rfl) ?_
          refine QZ.guarded rfl rfl rfl rfl rfl ?_
          refine QZ.opB rfl rfl rfl (fun w' hE => r_move rfl rfl) ?_ ?_
          · intro hb17_19
            try simp only [decide_eq_true_eq, decide_eq_false_iff_not, Bool.not_eq_true', Bool.not_eq_false', Bool.not_true, Bool.not_false, Bool.not_eq_true, Bool.not_eq_false] at hb17_19
            refine QZ.guarded rfl rfl rfl rfl rfl ?_
            refine QZ.op rfl rfl rfl (fun w' hE => r_move rfl rfl) ?_
            refine QZ.guarded rfl rfl rfl rfl rfl ?_
            refine QZ.op rfl rfl rfl (fun w' hE => r_move rfl rfl) ?_
            refine QZ.guarded rfl rfl rfl rfl rfl ?_
            refine QZ.op rfl rfl rfl (fun w' hE => r_indexAddr rfl rfl rfl Tryd.underlying51 Tryd.sizeOf3 rfl (Nat.mod_lt _ (by decide))) ?_
            refine QZ.guarded rfl rfl rfl rfl rfl ?_
            refine QZ.op rfl rfl rfl (fun w' hE => r_load rfl rfl Tryd.isAgg3 (hE.cell (by first | exact hB14.cell rfl | exact hB13.cell rfl | exact hB12.cell rfl | exact hB11.cell rfl | exact hB10.cell rfl | exact hB22.cell rfl | exact hB21.cell rfl | exact hB20.cell rfl | exact hB22.cell (ranksK_at _ (Nat.mod_lt _ (by decide))) | exact hB21.cell (signsK_at _ (Nat.mod_lt _ (by decide))) | exact hB20.cell (opsK_at _ (Nat.mod_lt _ (by decide))) | assumption))) ?_
            refine QZ.guarded rfl rfl rfl rfl rfl ?_
            refine QZ.op rfl rfl rfl (fun w' hE => r_gtr rfl rfl rfl) ?_
            refine QZ.guarded rfl rfl rfl rfl rfl ?_
            refine QZ.op rfl rfl rfl (fun w' hE => r_pick_t rfl rfl rfl) ?_
            refine QZ.op rfl rfl rfl (fun w' hE => r_pick_f rfl rfl rfl) ?_
            refine QZ.nil ?_
            intro wv392 hE393
            replace hG := hG.ext hE393
            replace hB20 := hB20.ext hE393
            replace hB21 := hB21.ext hE393
            replace hB22 := hB22.ext hE393
            replace hB10 := hB10.ext hE393
            replace hB11 := hB11.ext hE393
            replace hB12 := hB12.ext hE393
            replace hB13 := hB13.ext hE393
            replace hN13 := hN13.ext hE393
            replace hT13 := hT13.ext hE393
            replace hB14 := hB14.ext hE393
            replace hN14 := hN14.ext hE393
            replace hT14 := hT14.ext hE393
            replace hEw := hEw.ext hE393
            refine C.code ?_
            refine W.cond rfl ?_ ?_
            · intro hc394
              try simp only [decide_eq_true_eq, decide_eq_false_iff_not, Bool.not_eq_true', Bool.not_eq_false', Bool.not_true, Bool.not_false, Bool.not_eq_true, Bool.not_eq_false] at hc394
              refine W.seq ?_
              have hr2 : rankK (p % 12) < rankK (o % 12) ∨ (rankK (o % 12) = rankK (p % 12) ∧ 0 < rankK (o % 12)) := by omega
              have hq := chk2_at (Nat.mod_lt o (by decide)) (Nat.mod_lt p (by decide)) hr hr2
              simp only [chk2, Bool.and_eq_true] at hq
              refine W.region ?_
              have hsz395 := hEw.size
              refine SQ.call rfl rfl rfl (rc_func rfl rfl Tryd.call7) (alive_spec _ hG) ?_
              rintro _ wv396 ⟨rfl, hE397⟩
              refine ⟨_, rfl, ?_⟩
              replace hG := hG.ext hE397
              replace hB20 := hB20.ext hE397
              replace hB21 := hB21.ext hE397
              replace hB22 := hB22.ext hE397
              replace hB10 := hB10.ext hE397
              replace hB11 := hB11.ext hE397
              replace hB12 := hB12.ext hE397
              replace hB13 := hB13.ext hE397
              replace hN13 := hN13.ext hE397
              replace hT13 := hT13.ext hE397
              replace hB14 := hB14.ext hE397
              replace hN14 := hN14.ext hE397
              replace hT14 := hT14.ext hE397
              replace hEw := hEw.ext hE397
              refine SQ.op rfl rfl rfl (r_move rfl rfl) ?_
              refine SQ.guarded rfl rfl rfl rfl rfl ?_
              refine SQ.op rfl rfl rfl (r_move rfl rfl) ?_
              refine SQ.guarded rfl rfl rfl rfl rfl ?_
              refine SQ.op rfl rfl rfl (r_loadAgg rfl rfl Tryd.isAgg25 Tryd.sizeOf25 rfl (by first | exact hB14.cells | exact hB13.cells | exact hB12.cells | exact hB11.cells | exact hB10.cells | exact hB22.cells | exact hB21.cells | exact hB20.cells | assumption)) ?_
              refine SQ.guarded rfl rfl rfl rfl rfl ?_
              have hsz398 := hEw.size
              refine SQ.call rfl rfl rfl (rc_func rfl rfl Tryd.call19) (is_yes 200 (plainT (o % 12) (p % 12)) (Nat.le_trans (plainT_size _ _) (by decide)) (leftE (o % 12) (p % 12)) _ _ N13 _ hT13 hN13.le hG hq.1) ?_
              rintro _ wv399 ⟨rfl, hE400⟩
              refine ⟨_, rfl, ?_⟩
              replace hG := hG.ext hE400
              replace hB20 := hB20.ext hE400
              replace hB21 := hB21.ext hE400
              replace hB22 := hB22.ext hE400
              replace hB10 := hB10.ext hE400
              replace hB11 := hB11.ext hE400
              replace hB12 := hB12.ext hE400
              replace hB13 := hB13.ext hE400
              replace hN13 := hN13.ext hE400
              replace hT13 := hT13.ext hE400
              replace hB14 := hB14.ext hE400
              replace hN14 := hN14.ext hE400
              replace hT14 := hT14.ext hE400
              replace hEw := hEw.ext hE400
              refine SQ.op rfl rfl rfl (r_pick_t rfl rfl rfl) ?_
              refine SQ.op rfl rfl rfl (r_move rfl rfl) ?_
              refine SQ.guarded rfl rfl rfl rfl rfl ?_
              refine SQ.op rfl rfl rfl (r_move rfl rfl) ?_
              refine SQ.guarded rfl rfl rfl rfl rfl ?_
              refine SQ.op rfl rfl rfl (r_loadAgg rfl rfl Tryd.isAgg25 Tryd.sizeOf25 rfl (by first | exact hB14.cells | exact hB13.cells | exact hB12.cells | exact hB11.cells | exact hB10.cells | exact hB22.cells | exact hB21.cells | exact hB20.cells | assumption)) ?_
              refine SQ.guarded rfl rfl rfl rfl rfl ?_
              have hsz401 := hEw.size
              refine SQ.call rfl rfl rfl (rc_func rfl rfl Tryd.call19) (is_yes 200 (secondT (o % 12) (p % 12)) (Nat.le_trans (secondT_size _ _) (by decide)) (rightE (o % 12) (p % 12)) _ _ N14 _ hT14 hN14.le hG hq.2) ?_
              rintro _ wv402 ⟨rfl, hE403⟩
              refine ⟨_, rfl, ?_⟩
              replace hG := hG.ext hE403
              replace hB20 := hB20.ext hE403
              replace hB21 := hB21.ext hE403
              replace hB22 := hB22.ext hE403
              replace hB10 := hB10.ext hE403
              replace hB11 := hB11.ext hE403
              replace hB12 := hB12.ext hE403
              replace hB13 := hB13.ext hE403
              replace hN13 := hN13.ext hE403
              replace hT13 := hT13.ext hE403
              replace hB14 := hB14.ext hE403
              replace hN14 := hN14.ext hE403
              replace hT14 := hT14.ext hE403
              replace hEw := hEw.ext hE403
              refine SQ.op rfl rfl rfl (r_pick_t rfl rfl rfl) ?_
              refine SQ.op rfl rfl rfl (r_assign rfl rfl) ?_
              refine SQ.nil ?_
              refine C.code ?_
              refine W.ret ?_
              refine C.ret1 Tryd.results6 rfl ?_
              exact ⟨rfl, hEw⟩
            · intro hc394
              try simp only [decide_eq_true_eq, decide_eq_false_iff_not, Bool.not_eq_true', Bool.not_eq_false', Bool.not_true, Bool.not_false, Bool.not_eq_true, Bool.not_eq_false] at hc394
              refine W.skip ?_
              refine C.code ?_
              refine W.seq ?_
              have hr2 : ¬ (rankK (p % 12) < rankK (o % 12) ∨ (rankK (o % 12) = rankK (p % 12) ∧ 0 < rankK (o % 12))) := by omega
              have hq := chk3_at (Nat.mod_lt o (by decide)) (Nat.mod_lt p (by decide)) hr hr2
              simp only [chk3, Bool.and_eq_true] at hq
              refine W.region ?_
              have hsz404 := hEw.size
              refine SQ.call rfl rfl rfl (rc_func rfl rfl Tryd.call7) (alive_spec _ hG) ?_
              rintro _ wv405 ⟨rfl, hE406⟩
              refine ⟨_, rfl, ?_⟩
              replace hG := hG.ext hE406
              replace hB20 := hB20.ext hE406
              replace hB21 := hB21.ext hE406
              replace hB22 := hB22.ext hE406
              replace hB10 := hB10.ext hE406
              replace hB11 := hB11.ext hE406
              replace hB12 := hB12.ext hE406
              replace hB13 := hB13.ext hE406
              replace hN13 := hN13.ext hE406
              replace hT13 := hT13.ext hE406
              replace hB14 := hB14.ext hE406
              replace hN14 := hN14.ext hE406
              replace hT14 := hT14.ext hE406
              replace hEw := hEw.ext hE406
              refine SQ.op rfl rfl rfl (r_move rfl rfl) ?_
              refine SQ.guarded rfl rfl rfl rfl rfl ?_
              refine SQ.op rfl rfl rfl (r_move rfl rfl) ?_
              refine SQ.guarded rfl rfl rfl rfl rfl ?_
              refine SQ.op rfl rfl rfl (r_loadAgg rfl rfl Tryd.isAgg25 Tryd.sizeOf25 rfl (by first | exact hB14.cells | exact hB13.cells | exact hB12.cells | exact hB11.cells | exact hB10.cells | exact hB22.cells | exact hB21.cells | exact hB20.cells | assumption)) ?_
              refine SQ.guarded rfl rfl rfl rfl rfl ?_
              have hsz407 := hEw.size
              refine SQ.call rfl rfl rfl (rc_func rfl rfl Tryd.call19) (is_yes 200 (plainT (o % 12) (p % 12)) (Nat.le_trans (plainT_size _ _) (by decide)) (rightE (o % 12) (p % 12)) _ _ N14 _ hT14 hN14.le hG hq.1) ?_
              rintro _ wv408 ⟨rfl, hE409⟩
              refine ⟨_, rfl, ?_⟩
              replace hG := hG.ext hE409
              replace hB20 := hB20.ext hE409
              replace hB21 := hB21.ext hE409
              replace hB22 := hB22.ext hE409
              replace hB10 := hB10.ext hE409
              replace hB11 := hB11.ext hE409
              replace hB12 := hB12.ext hE409
              replace hB13 := hB13.ext hE409
              replace hN13 := hN13.ext hE409
              replace hT13 := hT13.ext hE409
              replace hB14 := hB14.ext hE409
              replace hN14 := hN14.ext hE409
              replace hT14 := hT14.ext hE409
              replace hEw := hEw.ext hE409
              refine SQ.op rfl rfl rfl (r_pick_t rfl rfl rfl) ?_
              refine SQ.op rfl rfl rfl (r_move rfl rfl) ?_
              refine SQ.guarded rfl rfl rfl rfl rfl ?_
              refine SQ.op rfl rfl rfl (r_move rfl rfl) ?_
              refine SQ.guarded rfl rfl rfl rfl rfl ?_
              refine SQ.op rfl rfl rfl (r_loadAgg rfl rfl Tryd.isAgg25 Tryd.sizeOf25 rfl (by first | exact hB14.cells | exact hB13.cells | exact hB12.cells | exact hB11.cells | exact hB10.cells | exact hB22.cells | exact hB21.cells | exact hB20.cells | assumption)) ?_
              refine SQ.guarded rfl rfl rfl rfl rfl ?_
              have hsz410 := hEw.size
              refine SQ.call rfl rfl rfl (rc_func rfl rfl Tryd.call19) (is_yes 200 (firstT (o % 12) (p % 12)) (Nat.le_trans (firstT_size _ _) (by decide)) (leftE (o % 12) (p % 12)) _ _ N13 _ hT13 hN13.le hG hq.2) ?_
              rintro _ wv411 ⟨rfl, hE412⟩
              refine ⟨_, rfl, ?_⟩
              replace hG := hG.ext hE412
              replace hB20 := hB20.ext hE412
              replace hB21 := hB21.ext hE412
              replace hB22 := hB22.ext hE412
              replace hB10 := hB10.ext hE412
              replace hB11 := hB11.ext hE412
              replace hB12 := hB12.ext hE412
              replace hB13 := hB13.ext hE412
              replace hN13 := hN13.ext hE412
              replace hT13 := hT13.ext hE412
              replace hB14 := hB14.ext hE412
              replace hN14 := hN14.ext hE412
              replace hT14 := hT14.ext hE412
              replace hEw := hEw.ext hE412
              refine SQ.op rfl rfl rfl (r_pick_t rfl rfl rfl) ?_
              refine SQ.op rfl rfl rfl (r_assign rfl rfl) ?_
              refine SQ.nil ?_
              refine C.code ?_
              refine W.ret ?_
              refine C.ret1 Tryd.results6 rfl ?_
              exact ⟨rfl, hEw⟩
          · intro hb17_19
            try simp only [decide_eq_true_eq, decide_eq_false_iff_not, Bool.not_eq_true', Bool.not_eq_false', Bool.not_true, Bool.not_false, Bool.not_eq_true, Bool.not_eq_false] at hb17_19
            refine QZ.skip rfl rfl rfl rfl rfl rfl rfl ?_
            refine QZ.skip rfl rfl rfl rfl rfl rfl rfl ?_
            refine QZ.skip rfl rfl rfl rfl rfl rfl rfl ?_
            refine QZ.skip rfl rfl rfl rfl rfl rfl rfl ?_
            refine QZ.skip rfl rfl rfl rfl rfl rfl rfl ?_
            refine QZ.guarded rfl rfl rfl rfl rfl ?_
            refine QZ.op rfl rfl rfl (fun w' hE => r_pick_f rfl rfl rfl) ?_
            refine QZ.op rfl rfl rfl (fun w' hE => r_pick_f rfl rfl rfl) ?_
            refine QZ.nil ?_
            intro wv413 hE414
            replace hG := hG.ext hE414
            replace hB20 := hB20.ext hE414
            replace hB21 := hB21.ext hE414
            replace hB22 := hB22.ext hE414
            replace hB10 := hB10.ext hE414
            replace hB11 := hB11.ext hE414
            replace hB12 := hB12.ext hE414
            replace hB13 := hB13.ext hE414
            replace hN13 := hN13.ext hE414
            replace hT13 := hT13.ext hE414
            replace hB14 := hB14.ext hE414
            replace hN14 := hN14.ext hE414
            replace hT14 := hT14.ext hE414
            replace hEw := hEw.ext hE414
            refine C.code ?_
            refine W.cond_f rfl ?_
            refine W.skip ?_
            refine C.code ?_
            refine W.seq ?_
            have hr2 : ¬ (rankK (p % 12) < rankK (o % 12) ∨ (rankK (o % 12) = rankK (p % 12) ∧ 0 < rankK (o % 12))) := by omega
            have hq := chk3_at (Nat.mod_lt o (by decide)) (Nat.mod_lt p (by decide)) hr hr2
            simp only [chk3, Bool.and_eq_true] at hq
            refine W.region ?_
            have hsz415 := hEw.size
            refine SQ.call rfl rfl rfl (rc_func rfl rfl Tryd.call7) (alive_spec _ hG) ?_
            rintro _ wv416 ⟨rfl, hE417⟩
            refine ⟨_, rfl, ?_⟩
            replace hG := hG.ext hE417
            replace hB20 := hB20.ext hE417
            replace hB21 := hB21.ext hE417
            replace hB22 := hB22.ext hE417
            replace hB10 := hB10.ext hE417
            replace hB11 := hB11.ext hE417
            replace hB12 := hB12.ext hE417
            replace hB13 := hB13.ext hE417
            replace hN13 := hN13.ext hE417
            replace hT13 := hT13.ext hE417
            replace hB14 := hB14.ext hE417
            replace hN14 := hN14.ext hE417
            replace hT14 := hT14.ext hE417
            replace hEw := hEw.ext hE417
            refine SQ.op rfl rfl rfl (r_move rfl rfl) ?_
            refine SQ.guarded rfl rfl rfl rfl rfl ?_
            refine SQ.op rfl rfl rfl (r_move rfl rfl) ?_
            refine SQ.guarded rfl rfl rfl rfl rfl ?_
            refine SQ.op rfl rfl rfl (r_loadAgg rfl rfl Tryd.isAgg25 Tryd.sizeOf25 rfl (by first | exact hB14.cells | exact hB13.cells | exact hB12.cells | exact hB11.cells | exact hB10.cells | exact hB22.cells | exact hB21.cells | exact hB20.cells | assumption)) ?_
            refine SQ.guarded rfl rfl rfl rfl rfl ?_
            have hsz418 := hEw.size
            refine SQ.call rfl rfl rfl (rc_func rfl rfl Tryd.call19) (is_yes 200 (plainT (o % 12) (p % 12)) (Nat.le_trans (plainT_size _ _) (by decide)) (rightE (o % 12) (p % 12)) _ _ N14 _ hT14 hN14.le hG hq.1) ?_
            rintro _ wv419 ⟨rfl, hE420⟩
            refine ⟨_, rfl, ?_⟩
            replace hG := hG.ext hE420
            replace hB20 := hB20.ext hE420
            replace hB21 := hB21.ext hE420
            replace hB22 := hB22.ext hE420
            replace hB10 := hB10.ext hE420
            replace hB11 := hB11.ext hE420
            replace hB12 := hB12.ext hE420
            replace hB13 := hB13.ext hE420
            replace hN13 := hN13.ext hE420
            replace hT13 := hT13.ext hE420
            replace hB14 := hB14.ext hE420
            replace hN14 := hN14.ext hE420
            replace hT14 := hT14.ext hE420
            replace hEw := hEw.ext hE420
            refine SQ.op rfl rfl rfl (r_pick_t rfl rfl rfl) ?_
            refine SQ.op rfl rfl rfl (r_move rfl rfl) ?_
            refine SQ.guarded rfl rfl rfl rfl rfl ?_
            refine SQ.op rfl rfl rfl (r_move rfl rfl) ?_
            refine SQ.guarded rfl rfl rfl rfl rfl ?_
            refine SQ.op rfl rfl rfl (r_loadAgg rfl rfl Tryd.isAgg25 Tryd.sizeOf25 rfl (by first | exact hB14.cells | exact hB13.cells | exact hB12.cells | exact hB11.cells | exact hB10.cells | exact hB22.cells | exact hB21.cells | exact hB20.cells | assumption)) ?_
            refine SQ.guarded rfl rfl rfl rfl rfl ?_
            have hsz421 := hEw.size
            refine SQ.call rfl rfl rfl (rc_func rfl rfl Tryd.call19) (is_yes 200 (firstT (o % 12) (p % 12)) (Nat.le_trans (firstT_size _ _) (by decide)) (leftE (o % 12) (p % 12)) _ _ N13 _ hT13 hN13.le hG hq.2) ?_
            rintro _ wv422 ⟨rfl, hE423⟩
            refine ⟨_, rfl, ?_⟩
            replace hG := hG.ext hE423
            replace hB20 := hB20.ext hE423
            replace hB21 := hB21.ext hE423
            replace hB22 := hB22.ext hE423
            replace hB10 := hB10.ext hE423
            replace hB11 := hB11.ext hE423
            replace hB12 := hB12.ext hE423
            replace hB13 := hB13.ext hE423
            replace hN13 := hN13.ext hE423
            replace hT13 := hT13.ext hE423
            replace hB14 := hB14.ext hE423
            replace hN14 := hN14.ext hE423
            replace hT14 := hT14.ext hE423
            replace hEw := hEw.ext hE423
            refine SQ.op rfl rfl rfl (r_pick_t rfl rfl rfl) ?_
            refine SQ.op rfl rfl rfl (r_assign rfl rfl) ?_
            refine SQ.nil ?_
            refine C.code ?_
            refine W.ret ?_
            refine C.ret1 Tryd.results6 rfl ?_
            exact ⟨rfl, hEw⟩


end Go.Proofs.YtclokcmgigdjlaaDoor
