/- Printed by this session's own program out of the translation, and by hand. -/
import Derived.Test.YtclokcmgigdjlaaDoorY
set_option linter.unusedVariables false
set_option linter.unusedSimpArgs false
set_option maxRecDepth 4000
namespace Go.Proofs.YtclokcmgigdjlaaDoor
open Go.FL Go.RowKit Go.Proofs

/-! ### What reads tokens: the walk -/
def wrongV (e : Int) : List PanicEntry := [{ v := .iface 69 (.agg #[.int .i64 e]), recovered := false }]
/-- What a reading function leaves. -/
def PPost (A : Option Addr) (m c r : Nat) (w0 : World) (res : Res) (e : Ending) (w' : World) : Prop := match res with
  | .ok t a => ∃ A' c', e = .returned (.agg (t.cs A' c').toArray) ∧ Tr w' (fun b => w0.heap.size ≤ b ∧ b < w'.heap.size) t A' c' ∧ Blk w' r [.slice A m c, .int .i64 (a : Int)] 67 ∧ a ≤ m ∧ Kp (fun b => b = r) w0 w'
  | .bad x a => e = .panicked (wrongV x) ∧ Blk w' r [.slice A m c, .int .i64 (a : Int)] 67 ∧ a ≤ m ∧ Kp (fun b => b = r) w0 w'
  | .oof => True
theorem must_ok (r : Value) (w : World) : Calls Tryd.prog 58 #[r, .bool true] w fun e w' => e = .returned (.tuple #[]) ∧ Ext w w' := (must_spec r true w).mono fun e w' ⟨h, hE⟩ => by
  rcases h with ⟨_, h⟩ | ⟨h, _⟩
  · exact ⟨h, hE⟩
  · cases h
theorem must_bad (r : Value) (w : World) : Calls Tryd.prog 58 #[r, .bool false] w fun e w' => e = .panicked (wrongV 5) ∧ Ext w w' := (must_spec r false w).mono fun e w' ⟨h, hE⟩ => by
  rcases h with ⟨h, _⟩ | ⟨_, h⟩
  · cases h
  · exact ⟨h, hE⟩
theorem Tr.mk1 {w : World} {S : Nat → Prop} {op : Int} {x : Ex} {A : Option Addr} {c nb c' : Nat} (hB : Blk w nb (x.cs A c) 25) (hS : S nb) (hx : Tr w S x A c) : Tr w S (.mk op 0 ⟨#[]⟩ [x]) (some ⟨nb, 0, none⟩) c' :=
  Tr.node (xs := [⟨x, A, c⟩]) (by decide) (by simp) hS (fun j v hv => blk_cell hB (by simpa [Nd.cs] using hv)) (by simp; exact hx)
theorem Tr.mk2 {w : World} {S : Nat → Prop} {op : Int} {x y : Ex} {A B : Option Addr} {c d nb c' : Nat} (hB : Blk w nb (x.cs A c ++ y.cs B d) 25) (hS : S nb) (hx : Tr w S x A c) (hy : Tr w S y B d) : Tr w S (.mk op 0 ⟨#[]⟩ [x, y]) (some ⟨nb, 0, none⟩) c' :=
  Tr.node (xs := [⟨x, A, c⟩, ⟨y, B, d⟩]) (by decide) (by simp) hS (fun j v hv => blk_cell hB (by simpa [Nd.cs] using hv)) (by simp; exact ⟨hx, hy⟩)
theorem Tr.mk3 {w : World} {S : Nat → Prop} {op : Int} {x y z : Ex} {A B C : Option Addr} {c d f nb c' : Nat} (hB : Blk w nb (x.cs A c ++ y.cs B d ++ z.cs C f) 25) (hS : S nb) (hx : Tr w S x A c) (hy : Tr w S y B d) (hz : Tr w S z C f) : Tr w S (.mk op 0 ⟨#[]⟩ [x, y, z]) (some ⟨nb, 0, none⟩) c' :=
  Tr.node (xs := [⟨x, A, c⟩, ⟨y, B, d⟩, ⟨z, C, f⟩]) (by decide) (by simp) hS (fun j v hv => blk_cell hB (by simpa [Nd.cs] using hv)) (by simp; exact ⟨hx, hy, hz⟩)
theorem ofWordR_tr (w : World) (S : Nat → Prop) (s : ByteArray) (hs : s.size ≤ 1000000000000) : Tr w S (ofWordR s).1 none 0 := by
  unfold ofWordR
  split
  · exact .nil (by decide)
  split
  · exact .nil (by decide)
  split
  · exact .nil ⟨hs, by decide, by decide⟩
  · exact .nil (by decide)
theorem ofNumberR_tr (w : World) (S : Nat → Prop) (s : ByteArray) : Tr w S (ofNumberR s).1 none 0 := .nil ⟨by decide, numberR_range s⟩
/-- What is known where a reading function begins. -/
structure Rd (w : World) (ts : List Tok) (A : Option Addr) (c r N a : Nat) : Prop where
  blk : Blk w r [.slice A ts.length c, .int .i64 (a : Int)] 67
  tk : TkAt w N A ts
  hN : N ≤ r
  hG : NG ≤ r
  ha : a ≤ ts.length
  hn : ts.length ≤ 1000000000
  hs : ∀ k, k ∈ ts → k.t.size ≤ 1000000000000
  gl : Gl w
def RankAt (k : Nat) : Prop := ∀ (ts : List Tok) (A : Option Addr) (c r N a : Nat) (n : Int) (w : World), Rd w ts A c r N a → 0 ≤ n → n ≤ 7 → rankP ts k n a ≠ .oof →
  Calls Tryd.prog 27 #[.pointer (some ⟨r, 0, none⟩), .int .i64 n] w (PPost A ts.length c r w (rankP ts k n a))
def PrefAt (k : Nat) : Prop := ∀ (ts : List Tok) (A : Option Addr) (c r N a : Nat) (w : World), Rd w ts A c r N a → prefixP ts k a ≠ .oof →
  Calls Tryd.prog 39 #[.pointer (some ⟨r, 0, none⟩)] w (PPost A ts.length c r w (prefixP ts k a))
def ChoiceAt (k : Nat) : Prop := ∀ (ts : List Tok) (A : Option Addr) (c r N a : Nat) (w : World), Rd w ts A c r N a → choiceP ts k a ≠ .oof →
  Calls Tryd.prog 41 #[.pointer (some ⟨r, 0, none⟩)] w (PPost A ts.length c r w (choiceP ts k a))

theorem takesB_lt {ts : List Tok} {i : Nat} {k : Int} {s : ByteArray} (h : takesB ts i k s = true) : i < ts.length := by
  unfold takesB at h
  split at h
  · rename_i t ht; exact (List.getElem?_eq_some_iff.1 ht).1
  · cases h
theorem find_at {α : Type} {p : α → Bool} : ∀ {l : List α} {i : Nat} {f : α}, (∀ j g, j < i → l[j]? = some g → p g = false) → l[i]? = some f → p f = true → l.find? p = some f
  | [], _, _, _, h, _ => by simp at h
  | x :: r, 0, f, _, h, hp => by simp at h; subst h; simp [hp]
  | x :: r, i + 1, f, hno, h, hp => by
    rw [List.find?_cons, hno 0 x (by omega) rfl]
    exact find_at (fun j g hj hg => hno (j + 1) g (Nat.succ_lt_succ hj) hg) (by simpa using h) hp
theorem find_no {α : Type} {p : α → Bool} {l : List α} (hno : ∀ j g, j < l.length → l[j]? = some g → p g = false) : l.find? p = none := by
  rw [List.find?_eq_none]
  intro x hx
  obtain ⟨j, hj⟩ := List.getElem?_of_mem hx
  simp [hno j x (List.getElem?_eq_some_iff.1 hj).1 hj]
theorem choiceP_1 {ts : List Tok} {k a : Nat} : choiceP ts (k + 1) a = (rankP ts k 0 a).andThen fun x a => if takesB ts a 1 ⟨#[116, 104, 101, 110]⟩ = true then (rankP ts k 0 (a + 1)).andThen fun y a => if takesB ts a 1 ⟨#[101, 108, 115, 101]⟩ = true then (rankP ts k 0 (a + 1)).andThen fun z a => .ok (.mk 17 0 ⟨#[]⟩ [x, y, z]) a else .bad 5 a else .bad 5 a := by rw [choiceP]

/-- (*belfry.exprs.reader).choice -/
theorem choice_step (k : Nat) (ih : RankAt k) (ts : List Tok) (A : Option Addr) (c r N a : Nat) (w : World) (hRd : Rd w ts A c r N a) (hne : choiceP ts (k + 1) a ≠ .oof) :
    Calls Tryd.prog 41 #[.pointer (some ⟨r, 0, none⟩)] w fun e w' => PPost A ts.length c r w (choiceP ts (k + 1) a) e w' := by
  obtain ⟨hR, hK, hNr, hGr, ha, hn, hs, hG⟩ := hRd
  have hrw := hR.lt
  refine calls_of Tryd.func41 rfl Tryd.ntmps41 rfl ?_
  have hKw := Kp.refl (fun b => b = r) w
  refine W.seq ?_
  refine W.region ?_
  have hsz5 := hKw.size
  refine SQ.new (v := (fun nb => .pointer (some ⟨nb, 0, none⟩))) rfl rfl rfl (r_alloc rfl Tryd.zeroValue25) ?_
  intro nb2 wv1 hge2 hlt3 hB2 hE4
  have hlt_hR_hB2 := Nat.lt_of_lt_of_le hR.lt hge2
  have hge_hG_hB2 := Nat.le_trans hG.size hge2
  replace hR := hR.ext hE4
  replace hK := hK.ext hE4
  replace hG := hG.ext hE4
  replace hKw := hKw.ext hE4
  replace hB2 : Blk wv1 nb2 _ _ := hB2
  refine SQ.nil ?_
  refine C.code ?_
  refine W.seq ?_
  refine W.region ?_
  refine SQ.op rfl rfl rfl (r_move rfl rfl) ?_
  rcases hres1 : rankP ts k 0 a with ⟨x1, a1⟩ | ⟨e1, a1⟩ | _
  · have hsz8 := hKw.size
    have hlt9 := hR.lt
    have hlt10 := hB2.lt
    refine SQ.call rfl rfl rfl (rc_func rfl rfl Tryd.call27) (ih ts A c r N a 0 _ ⟨hR, hK, hNr, hGr, by first | assumption | omega, hn, hs, hG⟩ (by decide) (by decide) (by intro h; exact hne (by rw [choiceP_1, h]; rfl))) ?_
    intro _ wv6 hpost
    rw [hres1] at hpost
    obtain ⟨A1, c1, rfl, hT1, hR1, ha1, hK7⟩ := hpost
    refine ⟨_, rfl, ?_⟩
    replace hK := hK.kp hK7 (by intro b hb hs; omega)
    replace hG := hG.kp hK7 (by intro b hb hs; omega)
    replace hB2 := hB2.kp hK7 (by omega)
    replace hKw := hKw.both hK7
    replace hR := hR1
    have hsz15 := hKw.size
    refine SQ.new (v := (fun nb => .pointer (some ⟨nb, 0, none⟩))) rfl rfl rfl (r_alloc rfl Tryd.zeroValue25) ?_
    intro nb3 wv11 hge12 hlt13 hB3 hE14
    have hlt_hR_hB3 := Nat.lt_of_lt_of_le hR.lt hge12
    have hge_hG_hB3 := Nat.le_trans hG.size hge12
    have hlt_hB2_hB3 := Nat.lt_of_lt_of_le hB2.lt hge12
    replace hR := hR.ext hE14
    replace hK := hK.ext hE14
    replace hG := hG.ext hE14
    replace hB2 := hB2.ext hE14
    replace hT1 := hT1.ext hE14
    replace hKw := hKw.ext hE14
    replace hB3 : Blk wv11 nb3 _ _ := hB3
    refine SQ.storeA rfl rfl rfl rfl rfl Tryd.sizeOf25 rfl hB3 ⟨rfl, rfl⟩ ?_
    intro wv16 hS18 hK17
    have hsz19 := hK17.size
    replace hR := hR.kp hK17 (by omega)
    replace hK := hK.kp hK17 (by intro b hb hs; omega)
    replace hG := hG.kp hK17 (by intro b hb hs; omega)
    replace hB2 := hB2.kp hK17 (by omega)
    replace hT1 := hT1.kp hK17 (by intro b hb hs; omega)
    replace hB3 : Blk wv16 _ _ _ := hS18
    clear hS18
    replace hKw := hKw.new hK17 (by intro b hb; subst hb; omega)
    refine SQ.nil ?_
    refine C.code ?_
    refine W.seq ?_
    refine W.region ?_
    refine SQ.op rfl rfl rfl (r_move rfl rfl) ?_
    refine SQ.op rfl rfl rfl (r_move rfl rfl) ?_
    have hsz20 := hKw.size
    refine SQ.call rfl rfl rfl (rc_func rfl rfl Tryd.call40) (takes_spec ts r N A c _ _ _ _ hR hK hNr (by first | assumption | omega) hn) ?_
    rintro _ wv21 ⟨rfl, hR2, hE22⟩
    refine ⟨_, rfl, ?_⟩
    replace hK := hK.kp hE22 (by intro b hb hs; omega)
    replace hG := hG.kp hE22 (by intro b hb hs; omega)
    replace hB2 := hB2.kp hE22 (by omega)
    replace hT1 := hT1.kp hE22 (by intro b hb hs; omega)
    replace hB3 := hB3.kp hE22 (by omega)
    replace hKw := hKw.both hE22
    replace hR := hR2
    clear hR2
    refine both (G := fun v => SQ _ _ _ _ _ _ ((_, v) :: _) _) ?_ ?_
    · intro hb2_2
      first | rw [if_pos hb2_2] at hR | rw [if_neg (by simp [hb2_2])] at hR
      try have hlt' := takesB_lt hb2_2
      refine SQ.call rfl rfl rfl (rc_func rfl rfl Tryd.call58) (must_ok _ _) ?_
      rintro _ wv23 ⟨rfl, hE24⟩
      refine ⟨_, rfl, ?_⟩
      replace hR := hR.ext hE24
      replace hK := hK.ext hE24
      replace hG := hG.ext hE24
      replace hB2 := hB2.ext hE24
      replace hT1 := hT1.ext hE24
      replace hB3 := hB3.ext hE24
      replace hKw := hKw.ext hE24
      refine SQ.nil ?_
      refine C.code ?_
      refine W.seq ?_
      refine W.region ?_
      refine SQ.op rfl rfl rfl (r_move rfl rfl) ?_
      rcases hres2 : rankP ts k 0 (a1 + 1) with ⟨x2, a2⟩ | ⟨e2, a2⟩ | _
      · have hsz27 := hKw.size
        have hlt28 := hR.lt
        have hlt29 := hB2.lt
        have hlt30 := hB3.lt
        refine SQ.call rfl rfl rfl (rc_func rfl rfl Tryd.call27) (ih ts A c r N (a1 + 1) 0 _ ⟨hR, hK, hNr, hGr, by first | assumption | omega, hn, hs, hG⟩ (by decide) (by decide) (by intro h; exact hne (by have ht := (show choiceP ts (k + 1) a = (rankP ts k 0 (a1 + 1)).andThen _ from by rw [choiceP_1, hres1]; exact if_pos (by assumption)); rw [h] at ht; exact ht))) ?_
        intro _ wv25 hpost
        rw [hres2] at hpost
        obtain ⟨A2, c2, rfl, hT2, hR2, ha2, hK26⟩ := hpost
        refine ⟨_, rfl, ?_⟩
        replace hK := hK.kp hK26 (by intro b hb hs; omega)
        replace hG := hG.kp hK26 (by intro b hb hs; omega)
        replace hB2 := hB2.kp hK26 (by omega)
        replace hT1 := hT1.kp hK26 (by intro b hb hs; omega)
        replace hB3 := hB3.kp hK26 (by omega)
        replace hKw := hKw.both hK26
        replace hR := hR2
        have hsz35 := hKw.size
        refine SQ.new (v := (fun nb => .pointer (some ⟨nb, 0, none⟩))) rfl rfl rfl (r_alloc rfl Tryd.zeroValue25) ?_
        intro nb4 wv31 hge32 hlt33 hB4 hE34
        have hlt_hR_hB4 := Nat.lt_of_lt_of_le hR.lt hge32
        have hge_hG_hB4 := Nat.le_trans hG.size hge32
        have hlt_hB2_hB4 := Nat.lt_of_lt_of_le hB2.lt hge32
        have hlt_hB3_hB4 := Nat.lt_of_lt_of_le hB3.lt hge32
        replace hR := hR.ext hE34
        replace hK := hK.ext hE34
        replace hG := hG.ext hE34
        replace hB2 := hB2.ext hE34
        replace hT1 := hT1.ext hE34
        replace hB3 := hB3.ext hE34
        replace hT2 := hT2.ext hE34
        replace hKw := hKw.ext hE34
        replace hB4 : Blk wv31 nb4 _ _ := hB4
        refine SQ.storeA rfl rfl rfl rfl rfl Tryd.sizeOf25 rfl hB4 ⟨rfl, rfl⟩ ?_
        intro wv36 hS38 hK37
        have hsz39 := hK37.size
        replace hR := hR.kp hK37 (by omega)
        replace hK := hK.kp hK37 (by intro b hb hs; omega)
        replace hG := hG.kp hK37 (by intro b hb hs; omega)
        replace hB2 := hB2.kp hK37 (by omega)
        replace hT1 := hT1.kp hK37 (by intro b hb hs; omega)
        replace hB3 := hB3.kp hK37 (by omega)
        replace hT2 := hT2.kp hK37 (by intro b hb hs; omega)
        replace hB4 : Blk wv36 _ _ _ := hS38
        clear hS38
        replace hKw := hKw.new hK37 (by intro b hb; subst hb; omega)
        refine SQ.nil ?_
        refine C.code ?_
        refine W.seq ?_
        refine W.region ?_
        refine SQ.op rfl rfl rfl (r_move rfl rfl) ?_
        refine SQ.op rfl rfl rfl (r_move rfl rfl) ?_
        have hsz40 := hKw.size
        refine SQ.call rfl rfl rfl (rc_func rfl rfl Tryd.call40) (takes_spec ts r N A c _ _ _ _ hR hK hNr (by first | assumption | omega) hn) ?_
        rintro _ wv41 ⟨rfl, hR2, hE42⟩
        refine ⟨_, rfl, ?_⟩
        replace hK := hK.kp hE42 (by intro b hb hs; omega)
        replace hG := hG.kp hE42 (by intro b hb hs; omega)
        replace hB2 := hB2.kp hE42 (by omega)
        replace hT1 := hT1.kp hE42 (by intro b hb hs; omega)
        replace hB3 := hB3.kp hE42 (by omega)
        replace hT2 := hT2.kp hE42 (by intro b hb hs; omega)
        replace hB4 := hB4.kp hE42 (by omega)
        replace hKw := hKw.both hE42
        replace hR := hR2
        clear hR2
        refine both (G := fun v => SQ _ _ _ _ _ _ ((_, v) :: _) _) ?_ ?_
        · intro hb4_2
          first | rw [if_pos hb4_2] at hR | rw [if_neg (by simp [hb4_2])] at hR
          try have hlt' := takesB_lt hb4_2
          refine SQ.call rfl rfl rfl (rc_func rfl rfl Tryd.call58) (must_ok _ _) ?_
          rintro _ wv43 ⟨rfl, hE44⟩
          refine ⟨_, rfl, ?_⟩
          replace hR := hR.ext hE44
          replace hK := hK.ext hE44
          replace hG := hG.ext hE44
          replace hB2 := hB2.ext hE44
          replace hT1 := hT1.ext hE44
          replace hB3 := hB3.ext hE44
          replace hT2 := hT2.ext hE44
          replace hB4 := hB4.ext hE44
          replace hKw := hKw.ext hE44
          refine SQ.nil ?_
          refine C.code ?_
          refine W.seq ?_
          refine W.held (fun w' => Kp (fun b => b = r ∨ b = nb2) wv43 w') mixed ?_
          intro wv45 hE46 _
          have hS47 : Kp (fun b => b = r ∨ b = nb2) wv43 wv45 := hE46.to _
          have hRn := hR.ext hE46
          have hB2n := hB2.ext hE46
          refine AH.take 0 rfl (by kernel_rfl) (by kernel_rfl) (by kernel_rfl) PanOk.fn rfl rfl rfl hS47 (fun w' hS => r_loadAgg rfl rfl Tryd.isAgg25 Tryd.sizeOf25 rfl (by first | exact (fun j v hv => hS.cell (hB4.cells j v hv) (by first | omega | (dsimp only; omega))) | exact (fun j v hv => hS.cell (hB3.cells j v hv) (by first | omega | (dsimp only; omega))) | exact (fun j v hv => hS.cell (hB2.cells j v hv) (by first | omega | (dsimp only; omega))) | exact (fun j v hv => hS.cell (hR.cells j v hv) (by first | omega | (dsimp only; omega))) | assumption)) ?_
          refine AH.take 1 rfl (by kernel_rfl) (by kernel_rfl) (by kernel_rfl) PanOk.fn rfl rfl rfl hS47 (fun w' hS => r_loadAgg rfl rfl Tryd.isAgg25 Tryd.sizeOf25 rfl (by first | exact (fun j v hv => hS.cell (hB4.cells j v hv) (by first | omega | (dsimp only; omega))) | exact (fun j v hv => hS.cell (hB3.cells j v hv) (by first | omega | (dsimp only; omega))) | exact (fun j v hv => hS.cell (hB2.cells j v hv) (by first | omega | (dsimp only; omega))) | exact (fun j v hv => hS.cell (hR.cells j v hv) (by first | omega | (dsimp only; omega))) | assumption)) ?_
          refine AH.take 2 rfl (by kernel_rfl) (by kernel_rfl) (by kernel_rfl) PanOk.fn rfl rfl rfl hS47 (fun w' hS => r_move rfl rfl) ?_
          refine AH.one 3 rfl (by kernel_rfl) rfl ?_
          rcases hres3 : rankP ts k 0 (a2 + 1) with ⟨x3, a3⟩ | ⟨e3, a3⟩ | _
          · have hlt51 := hR.lt
            have hlt52 := hB2.lt
            have hlt53 := hB3.lt
            have hlt54 := hB4.lt
            have hlt55 := hRn.lt
            have hlt56 := hB2n.lt
            have hsz57 := hKw.size
            have hsz58 := hS47.size
            refine OW.call rfl rfl (rc_func rfl rfl Tryd.call27) (ih ts A c r N (a2 + 1) 0 _ ⟨hR.ext hE46, hK.ext hE46, hNr, hGr, by first | assumption | omega, hn, hs, hG.ext hE46⟩ (by decide) (by decide) (by intro h; exact hne (by have ht := (show choiceP ts (k + 1) a = (rankP ts k 0 (a2 + 1)).andThen _ from by rw [choiceP_1, hres1]; refine (if_pos (by assumption)).trans ?_; rw [hres2]; exact if_pos (by assumption)); rw [h] at ht; exact ht))) ?_
            intro _ wv48 hpost
            rw [hres3] at hpost
            obtain ⟨A3, c3, rfl, hT3, hR3, ha3, hE49⟩ := hpost
            refine .inl ⟨_, rfl, ?_⟩
            replace hB2n := hB2n.kp hE49 (by omega)
            replace hRn := hR3
            have hS50 := hS47.both (hE49.mono (fun b _ hb => .inl hb))
            refine OW.next hS50 ?_
            refine AH.one 4 rfl (by kernel_rfl) rfl ?_
            have hsz64 := hS50.size
            have hlt0_hR_hB21 := hR.lt
            have hlt0_hB2_hB21 := hB2.lt
            have hlt0_hB3_hB21 := hB3.lt
            have hlt0_hB4_hB21 := hB4.lt
            have hsz65 := hKw.size
            refine OW.new (v := (fun nb => .slice (some ⟨nb, 0, none⟩) 3 3)) rfl rfl (r_buildSlice rfl rfl Tryd.underlying23 Tryd.sizeOf25 Tryd.zeroValue25 rfl rfl rfl rfl rfl) ?_
            intro nb21 wv59 hge62 hlt63 hB21 hE60
            have hlt_hRn_hB21 := Nat.lt_of_lt_of_le hRn.lt hge62
            have hlt_hB2n_hB21 := Nat.lt_of_lt_of_le hB2n.lt hge62
            replace hRn := hRn.ext hE60
            replace hB2n := hB2n.ext hE60
            replace hT3 := hT3.ext hE60
            replace hB21 : Blk wv59 nb21 _ _ := hB21
            have hS61 := hS50.ext hE60
            refine OW.next hS61 ?_
            refine AH.take 5 rfl (by kernel_rfl) (by kernel_rfl) (by kernel_rfl) PanOk.fn rfl rfl rfl hS61 (fun w' hS => r_build (pl := [(0, 1), (1, 1), (2, 1), (3, 1)]) rfl rfl Tryd.underlying25 Tryd.zeroValue25 (fun _ => by kernel_rfl) rfl rfl) ?_
            refine AH.one 6 rfl (by kernel_rfl) rfl ?_
            refine OW.storeA rfl rfl rfl rfl Tryd.sizeOf25 rfl hB2n ⟨rfl, rfl⟩ ?_
            intro wv66 hn69 hE67
            replace hRn := hRn.kp hE67 (by omega)
            replace hT3 := hT3.kp hE67 (by intro b hb hs; omega)
            replace hB21 := hB21.kp hE67 (by omega)
            replace hB2n : Blk wv66 _ _ _ := hn69
            clear hn69
            have hS68 : Kp (fun b => b = r ∨ b = nb2) wv43 wv66 := hS61.both (hE67.mono (by intro b _ hb; subst hb; simp))
            refine OW.next hS68 ?_
            refine AH.done (by kernel_rfl) ?_
            replace hK := hK.kp hS68 (by intro b hb hs; omega)
            replace hG := hG.kp hS68 (by intro b hb hs; omega)
            replace hT1 := hT1.kp hS68 (by intro b hb hs; omega)
            replace hB3 := hB3.kp hS68 (by first | omega | (dsimp only; omega))
            replace hT2 := hT2.kp hS68 (by intro b hb hs; omega)
            replace hB4 := hB4.kp hS68 (by first | omega | (dsimp only; omega))
            replace hKw := hKw.trans hS68 (fun _ _ h => h) (fun b hb h => by omega)
            replace hR := hRn
            clear hRn
            replace hB2 := hB2n
            clear hB2n
            refine C.code ?_
            refine W.ret ?_
            refine C.retL (vs := [_]) Tryd.results41 ⟨⟨_, rfl, ld_agg Tryd.isAgg25 Tryd.sizeOf25 hB2 rfl⟩, trivial⟩ ?_
            have ht : choiceP ts (k + 1) a = .ok (.mk 17 0 ⟨#[]⟩ [x1, x2, x3]) a3 := by have ht := (show choiceP ts (k + 1) a = (rankP ts k 0 (a2 + 1)).andThen _ from by rw [choiceP_1, hres1]; refine (if_pos (by assumption)).trans ?_; rw [hres2]; exact if_pos (by assumption)); rw [hres3] at ht; exact ht
            rw [ht]
            have hsz9 := hKw.size
            have hl3 := hB3.lt
            have hl4 := hB4.lt
            have hl9 := hB21.lt
            exact ⟨_, _, rfl, Tr.mk3 hB21 (by omega) (hT1.mono (by intro b hb; omega)) (hT2.mono (by intro b hb; omega)) (hT3.mono (by intro b hb; omega)), hR, by omega, hKw⟩
          · refine OW.call rfl rfl (rc_func rfl rfl Tryd.call27) (ih ts A c r N (a2 + 1) 0 _ ⟨hR.ext hE46, hK.ext hE46, hNr, hGr, by first | assumption | omega, hn, hs, hG.ext hE46⟩ (by decide) (by decide) (by intro h; exact hne (by have ht := (show choiceP ts (k + 1) a = (rankP ts k 0 (a2 + 1)).andThen _ from by rw [choiceP_1, hres1]; refine (if_pos (by assumption)).trans ?_; rw [hres2]; exact if_pos (by assumption)); rw [h] at ht; exact ht))) ?_
            intro _ wv48 hpost
            rw [hres3] at hpost
            obtain ⟨rfl, hR3, ha3, hE49⟩ := hpost
            refine .inr ⟨_, rfl, ?_⟩
            refine C.pan ?_
            have ht := (show choiceP ts (k + 1) a = (rankP ts k 0 (a2 + 1)).andThen _ from by rw [choiceP_1, hres1]; refine (if_pos (by assumption)).trans ?_; rw [hres2]; exact if_pos (by assumption))
            rw [hres3] at ht
            replace ht : choiceP ts (k + 1) a = .bad e3 a3 := ht
            rw [ht]
            exact ⟨rfl, hR3, ha3, hKw.both (hE46.kp hE49)⟩
          · exact absurd (by have ht := (show choiceP ts (k + 1) a = (rankP ts k 0 (a2 + 1)).andThen _ from by rw [choiceP_1, hres1]; refine (if_pos (by assumption)).trans ?_; rw [hres2]; exact if_pos (by assumption)); rw [hres3] at ht; exact ht) hne
        · intro hb4_2
          first | rw [if_pos hb4_2] at hR | rw [if_neg (by simp [hb4_2])] at hR
          try have hlt' := takesB_lt hb4_2
          refine SQ.callP rfl rfl rfl (rc_func rfl rfl Tryd.call58) (must_bad _ _) ?_
          rintro _ wv70 ⟨rfl, hE71⟩
          refine .inr ⟨_, rfl, ?_⟩
          refine C.pan ?_
          have ht : choiceP ts (k + 1) a = .bad 5 _ := (by rw [choiceP_1, hres1]; refine (if_pos (by assumption)).trans ?_; rw [hres2]; exact if_neg (by simp [*]))
          rw [ht]
          exact ⟨rfl, hR.ext hE71, by first | assumption | omega, hKw.ext hE71⟩
      · refine SQ.callP rfl rfl rfl (rc_func rfl rfl Tryd.call27) (ih ts A c r N (a1 + 1) 0 _ ⟨hR, hK, hNr, hGr, by first | assumption | omega, hn, hs, hG⟩ (by decide) (by decide) (by intro h; exact hne (by have ht := (show choiceP ts (k + 1) a = (rankP ts k 0 (a1 + 1)).andThen _ from by rw [choiceP_1, hres1]; exact if_pos (by assumption)); rw [h] at ht; exact ht))) ?_
        intro _ wv25 hpost
        rw [hres2] at hpost
        obtain ⟨rfl, hR2, ha2, hK26⟩ := hpost
        refine .inr ⟨_, rfl, ?_⟩
        refine C.pan ?_
        have ht := (show choiceP ts (k + 1) a = (rankP ts k 0 (a1 + 1)).andThen _ from by rw [choiceP_1, hres1]; exact if_pos (by assumption))
        rw [hres2] at ht
        replace ht : choiceP ts (k + 1) a = .bad e2 a2 := ht
        rw [ht]
        exact ⟨rfl, hR2, ha2, hKw.both hK26⟩
      · exact absurd (by have ht := (show choiceP ts (k + 1) a = (rankP ts k 0 (a1 + 1)).andThen _ from by rw [choiceP_1, hres1]; exact if_pos (by assumption)); rw [hres2] at ht; exact ht) hne
    · intro hb2_2
      first | rw [if_pos hb2_2] at hR | rw [if_neg (by simp [hb2_2])] at hR
      try have hlt' := takesB_lt hb2_2
      refine SQ.callP rfl rfl rfl (rc_func rfl rfl Tryd.call58) (must_bad _ _) ?_
      rintro _ wv72 ⟨rfl, hE73⟩
      refine .inr ⟨_, rfl, ?_⟩
      refine C.pan ?_
      have ht : choiceP ts (k + 1) a = .bad 5 _ := (by rw [choiceP_1, hres1]; exact if_neg (by simp [*]))
      rw [ht]
      exact ⟨rfl, hR.ext hE73, by first | assumption | omega, hKw.ext hE73⟩
  · refine SQ.callP rfl rfl rfl (rc_func rfl rfl Tryd.call27) (ih ts A c r N a 0 _ ⟨hR, hK, hNr, hGr, by first | assumption | omega, hn, hs, hG⟩ (by decide) (by decide) (by intro h; exact hne (by rw [choiceP_1, h]; rfl))) ?_
    intro _ wv6 hpost
    rw [hres1] at hpost
    obtain ⟨rfl, hR1, ha1, hK7⟩ := hpost
    refine .inr ⟨_, rfl, ?_⟩
    refine C.pan ?_
    have ht := (choiceP_1 (ts := ts) (k := k) (a := a))
    rw [hres1] at ht
    replace ht : choiceP ts (k + 1) a = .bad e1 a1 := ht
    rw [ht]
    exact ⟨rfl, hR1, ha1, hKw.both hK7⟩
  · exact absurd (by have ht := (choiceP_1 (ts := ts) (k := k) (a := a)); rw [hres1] at ht; exact ht) hne

theorem Run.to {P : Program} {l : Env} {w w' : World} {o : Oper} {v v' : Value} (h : Run P o l w v w') (e : v = v') : Run P o l w v' w' := e ▸ h
theorem prefixP_1 {ts : List Tok} {k a : Nat} {f : Form} (h : firstP ts a = some f) : prefixP ts (k + 1) a = (prefixP ts k (a + 1)).andThen fun x a => .ok (.mk f.op 0 ⟨#[]⟩ [x]) a := by rw [prefixP, h]
theorem prefixP_2 {ts : List Tok} {k a : Nat} (h : firstP ts a = none) (hb : takesB ts a 3 ⟨#[40]⟩ = true) : prefixP ts (k + 1) a = (rankP ts k 0 (a + 1)).andThen fun x a => if takesB ts a 3 ⟨#[41]⟩ = true then .ok x (a + 1) else .bad 5 a := by rw [prefixP, h]; exact if_pos hb
theorem prefixP_3 {ts : List Tok} {k a : Nat} (h : firstP ts a = none) (hb : takesB ts a 3 ⟨#[40]⟩ = false) (ht : ts[a]? = none) : prefixP ts (k + 1) a = .bad 5 a := by rw [prefixP, h]; refine (if_neg (by simp [hb])).trans ?_; rw [ht]
theorem prefixP_4 {ts : List Tok} {k a : Nat} {t : Tok} (h : firstP ts a = none) (hb : takesB ts a 3 ⟨#[40]⟩ = false) (ht : ts[a]? = some t) : prefixP ts (k + 1) a = atomR t a := by rw [prefixP, h]; refine (if_neg (by simp [hb])).trans ?_; rw [ht]

/-- (*belfry.exprs.reader).prefix -/
theorem prefix_step (k : Nat) (ihr : RankAt k) (ihp : PrefAt k) (ts : List Tok) (A : Option Addr) (c r N a : Nat) (w : World) (hRd : Rd w ts A c r N a) (hne : prefixP ts (k + 1) a ≠ .oof) :
    Calls Tryd.prog 39 #[.pointer (some ⟨r, 0, none⟩)] w fun e w' => PPost A ts.length c r w (prefixP ts (k + 1) a) e w' := by
  obtain ⟨hR, hK, hNr, hGr, ha, hn, hs, hG⟩ := hRd
  have hrw := hR.lt
  refine calls_of Tryd.func39 rfl Tryd.ntmps39 rfl ?_
  have hKw := Kp.refl (fun b => b = r) w
  refine W.seq ?_
  refine W.region ?_
  have hsz5 := hKw.size
  refine SQ.new (v := (fun nb => .pointer (some ⟨nb, 0, none⟩))) rfl rfl rfl (r_alloc rfl Tryd.zeroValue25) ?_
  intro nb2 wv1 hge2 hlt3 hB2 hE4
  have hlt_hR_hB2 := Nat.lt_of_lt_of_le hR.lt hge2
  have hge_hG_hB2 := Nat.le_trans hG.size hge2
  replace hR := hR.ext hE4
  replace hK := hK.ext hE4
  replace hG := hG.ext hE4
  replace hKw := hKw.ext hE4
  replace hB2 : Blk wv1 nb2 _ _ := hB2
  refine SQ.nil ?_
  refine C.code ?_
  refine W.seq ?_
  refine W.seq ?_
  refine W.region ?_
  have hsz6 := hKw.size
  have hlt7 := hR.lt
  have hlt8 := hB2.lt
  refine SQ.call rfl rfl rfl (rc_func rfl rfl Tryd.call48) (prefixes_spec _) ?_
  rintro _ wv9 ⟨bq, rfl, hQ, hgq, hE10⟩
  refine ⟨_, rfl, ?_⟩
  replace hR := hR.ext hE10
  replace hK := hK.ext hE10
  replace hG := hG.ext hE10
  replace hB2 := hB2.ext hE10
  replace hKw := hKw.ext hE10
  refine SQ.op rfl rfl rfl (r_lenSlice rfl rfl Tryd.underlying85) ?_
  refine SQ.op rfl rfl rfl (r_move rfl rfl) ?_
  refine SQ.nil ?_
  refine C.code ?_
  refine W.block ?_
  refine W.loop (α := Nat) (fun i => [(0, .pointer (some ⟨r, 0, none⟩)), (2, .pointer (some ⟨nb2, 0, none⟩)), (12, .slice (some ⟨bq, 0, none⟩) 3 3), (13, .int .i64 3), (14, .int .i64 (i : Int))]) (fun i w1 => Blk w1 r [.slice A ts.length c, .int .i64 (a : Int)] 67 ∧ TkAt w1 N A ts ∧ Gl w1 ∧ Blk w1 bq (prefixesF.flatMap Form.enc) 88 ∧ Blk w1 nb2 (exNone.cs none 0) 25 ∧ Kp (fun b => b = r) w w1 ∧ i ≤ 3 ∧ ∀ j f, j < i → prefixesF[j]? = some f → takesB ts a f.kind f.text = false) (fun i => 3 - i) 0 ⟨rfl, rfl, rfl, rfl, rfl, trivial⟩ ⟨hR, hK, hG, hQ, hB2, hKw, by omega, fun j f h => absurd h (by omega)⟩ ?_
  rintro i wl ⟨hR, hK, hG, hQ, hB2, hKw, hi3, hno⟩
  have hl3 : prefixesF.length = 3 := rfl
  by_cases hi : i < prefixesF.length
  · obtain ⟨f, hf⟩ : ∃ f, prefixesF[i]? = some f := ⟨_, List.getElem?_eq_getElem hi⟩
    have hC := hQ.sub (z := 4) (fun _ => rfl) hf
    refine W.seq ?_
    refine W.region ?_
    refine SQ.opD true rfl rfl rfl (r_lss rfl rfl rfl) (by simp; omega) ?_
    refine SQ.nil ?_
    refine C.code ?_
    refine W.seq ?_
    refine W.cond_t rfl ?_
    refine W.skip ?_
    refine C.code ?_
    refine W.seq ?_
    refine W.block ?_
    refine W.seq ?_
    refine W.region ?_
    refine SQ.op rfl rfl rfl (r_indexAddr rfl rfl rfl Tryd.underlying85 Tryd.sizeOf88 rfl (by omega)) ?_
    refine SQ.op rfl rfl rfl (r_loadAgg rfl rfl Tryd.isAgg88 Tryd.sizeOf88 rfl (by first | exact hC | exact hB2.cells | exact hQ.cells | exact hR.cells | assumption)) ?_
    have hsz15 := hKw.size
    refine SQ.new (v := (fun nb => .pointer (some ⟨nb, 0, none⟩))) rfl rfl rfl (r_alloc rfl Tryd.zeroValue88) ?_
    intro nb4 wv11 hge12 hlt13 hB4 hE14
    have hlt_hR_hB4 := Nat.lt_of_lt_of_le hR.lt hge12
    have hge_hG_hB4 := Nat.le_trans hG.size hge12
    have hlt_hQ_hB4 := Nat.lt_of_lt_of_le hQ.lt hge12
    have hlt_hB2_hB4 := Nat.lt_of_lt_of_le hB2.lt hge12
    replace hR := hR.ext hE14
    replace hK := hK.ext hE14
    replace hG := hG.ext hE14
    replace hQ := hQ.ext hE14
    replace hB2 := hB2.ext hE14
    replace hC := hC.ext hE14
    replace hKw := hKw.ext hE14
    replace hB4 : Blk wv11 nb4 _ _ := hB4
    refine SQ.storeA rfl rfl rfl rfl rfl Tryd.sizeOf88 rfl hB4 ⟨rfl, rfl⟩ ?_
    intro wv16 hS18 hK17
    have hsz19 := hK17.size
    replace hR := hR.kp hK17 (by omega)
    replace hK := hK.kp hK17 (by intro b hb hs; omega)
    replace hG := hG.kp hK17 (by intro b hb hs; omega)
    replace hQ := hQ.kp hK17 (by omega)
    replace hB2 := hB2.kp hK17 (by omega)
    replace hC := hC.kp hK17 (by omega)
    replace hB4 : Blk wv16 _ _ _ := hS18
    clear hS18
    replace hKw := hKw.new hK17 (by intro b hb; subst hb; omega)
    refine SQ.nil ?_
    refine C.code ?_
    refine W.seq ?_
    refine W.region ?_
    refine SQ.op rfl rfl rfl (r_move rfl rfl) ?_
    refine SQ.op rfl rfl rfl (r_fieldAddr rfl rfl Tryd.underlying88 rfl Tryd.sizeOf5 rfl) ?_
    refine SQ.op rfl rfl rfl (r_load rfl rfl Tryd.isAgg5 (by first | exact hB4.cell rfl | exact hC.cell rfl | exact hB2.cell rfl | exact hQ.cell rfl | exact hR.cell rfl | assumption)) ?_
    refine SQ.op rfl rfl rfl (r_fieldAddr rfl rfl Tryd.underlying88 rfl Tryd.sizeOf9 rfl) ?_
    refine SQ.op rfl rfl rfl (r_load rfl rfl Tryd.isAgg9 (by first | exact hB4.cell rfl | exact hC.cell rfl | exact hB2.cell rfl | exact hQ.cell rfl | exact hR.cell rfl | assumption)) ?_
    have hsz20 := hKw.size
    refine SQ.call rfl rfl rfl (rc_func rfl rfl Tryd.call40) (takes_spec ts r N A c _ _ _ _ hR hK hNr (by first | assumption | omega) hn) ?_
    rintro _ wv21 ⟨rfl, hR2, hE22⟩
    refine ⟨_, rfl, ?_⟩
    replace hK := hK.kp hE22 (by intro b hb hs; omega)
    replace hG := hG.kp hE22 (by intro b hb hs; omega)
    replace hQ := hQ.kp hE22 (by omega)
    replace hB2 := hB2.kp hE22 (by omega)
    replace hC := hC.kp hE22 (by omega)
    replace hB4 := hB4.kp hE22 (by omega)
    replace hKw := hKw.both hE22
    replace hR := hR2
    clear hR2
    refine both (G := fun v => SQ _ _ _ _ _ _ ((_, v) :: _) _) ?_ ?_
    · intro hb4_5
      first | rw [if_pos hb4_5] at hR | rw [if_neg (by simp [hb4_5])] at hR
      try have hlt' := takesB_lt hb4_5
      refine SQ.nil ?_
      refine C.code ?_
      refine W.cond_t rfl ?_
      refine W.seq ?_
      have hfp : firstP ts a = some f := find_at hno hf (by assumption)
      refine W.held (fun w' => Kp (fun b => b = r ∨ b = nb2) wv21 w') mixed ?_
      intro wv23 hE24 _
      have hS25 : Kp (fun b => b = r ∨ b = nb2) wv21 wv23 := hE24.to _
      have hRn := hR.ext hE24
      have hB2n := hB2.ext hE24
      refine AH.take 0 rfl (by kernel_rfl) (by kernel_rfl) (by kernel_rfl) PanOk.fn rfl rfl rfl hS25 (fun w' hS => r_fieldAddr rfl rfl Tryd.underlying88 rfl Tryd.sizeOf22 rfl) ?_
      refine AH.take 1 rfl (by kernel_rfl) (by kernel_rfl) (by kernel_rfl) PanOk.fn rfl rfl rfl hS25 (fun w' hS => r_load rfl rfl Tryd.isAgg22 (by first | exact hS.cell (hB4.cell rfl) (by first | omega | (dsimp only; omega)) | exact hS.cell (hC.cell rfl) (by first | omega | (dsimp only; omega)) | exact hS.cell (hB2.cell rfl) (by first | omega | (dsimp only; omega)) | exact hS.cell (hQ.cell rfl) (by first | omega | (dsimp only; omega)) | exact hS.cell (hR.cell rfl) (by first | omega | (dsimp only; omega)) | assumption)) ?_
      refine AH.take 2 rfl (by kernel_rfl) (by kernel_rfl) (by kernel_rfl) PanOk.fn rfl rfl rfl hS25 (fun w' hS => r_move rfl rfl) ?_
      refine AH.one 3 rfl (by kernel_rfl) rfl ?_
      rcases hres1 : prefixP ts k (a + 1) with ⟨x1, a1⟩ | ⟨e1, a1⟩ | _
      · have hlt29 := hR.lt
        have hlt30 := hQ.lt
        have hlt31 := hB2.lt
        have hlt32 := hB4.lt
        have hlt33 := hRn.lt
        have hlt34 := hB2n.lt
        have hsz35 := hKw.size
        have hsz36 := hS25.size
        refine OW.call rfl rfl (rc_func rfl rfl Tryd.call39) (ihp ts A c r N (a + 1) _ ⟨hR.ext hE24, hK.ext hE24, hNr, hGr, by first | assumption | omega, hn, hs, hG.ext hE24⟩ (by intro h; exact hne (by rw [prefixP_1 hfp, h]; rfl))) ?_
        intro _ wv26 hpost
        rw [hres1] at hpost
        obtain ⟨A1, c1, rfl, hT1, hR1, ha1, hE27⟩ := hpost
        refine .inl ⟨_, rfl, ?_⟩
        replace hB2n := hB2n.kp hE27 (by omega)
        replace hRn := hR1
        have hS28 := hS25.both (hE27.mono (fun b _ hb => .inl hb))
        refine OW.next hS28 ?_
        refine AH.one 4 rfl (by kernel_rfl) rfl ?_
        have hsz42 := hS28.size
        have hlt0_hR_hB28 := hR.lt
        have hlt0_hQ_hB28 := hQ.lt
        have hlt0_hB2_hB28 := hB2.lt
        have hlt0_hB4_hB28 := hB4.lt
        have hsz43 := hKw.size
        refine OW.new (v := (fun nb => .slice (some ⟨nb, 0, none⟩) 1 1)) rfl rfl (r_buildSlice rfl rfl Tryd.underlying23 Tryd.sizeOf25 Tryd.zeroValue25 rfl rfl rfl rfl rfl) ?_
        intro nb28 wv37 hge40 hlt41 hB28 hE38
        have hlt_hRn_hB28 := Nat.lt_of_lt_of_le hRn.lt hge40
        have hlt_hB2n_hB28 := Nat.lt_of_lt_of_le hB2n.lt hge40
        replace hRn := hRn.ext hE38
        replace hB2n := hB2n.ext hE38
        replace hT1 := hT1.ext hE38
        replace hB28 : Blk wv37 nb28 _ _ := hB28
        have hS39 := hS28.ext hE38
        refine OW.next hS39 ?_
        refine AH.take 5 rfl (by kernel_rfl) (by kernel_rfl) (by kernel_rfl) PanOk.fn rfl rfl rfl hS39 (fun w' hS => r_build (pl := [(0, 1), (1, 1), (2, 1), (3, 1)]) rfl rfl Tryd.underlying25 Tryd.zeroValue25 (fun _ => by kernel_rfl) rfl rfl) ?_
        refine AH.one 6 rfl (by kernel_rfl) rfl ?_
        refine OW.storeA rfl rfl rfl rfl Tryd.sizeOf25 rfl hB2n ⟨rfl, rfl⟩ ?_
        intro wv44 hn47 hE45
        replace hRn := hRn.kp hE45 (by omega)
        replace hT1 := hT1.kp hE45 (by intro b hb hs; omega)
        replace hB28 := hB28.kp hE45 (by omega)
        replace hB2n : Blk wv44 _ _ _ := hn47
        clear hn47
        have hS46 : Kp (fun b => b = r ∨ b = nb2) wv21 wv44 := hS39.both (hE45.mono (by intro b _ hb; subst hb; simp))
        refine OW.next hS46 ?_
        refine AH.done (by kernel_rfl) ?_
        replace hK := hK.kp hS46 (by intro b hb hs; omega)
        replace hG := hG.kp hS46 (by intro b hb hs; omega)
        replace hQ := hQ.kp hS46 (by first | omega | (dsimp only; omega))
        replace hC := hC.kp hS46 (by first | omega | (dsimp only; omega))
        replace hB4 := hB4.kp hS46 (by first | omega | (dsimp only; omega))
        replace hKw := hKw.trans hS46 (fun _ _ h => h) (fun b hb h => by omega)
        replace hR := hRn
        clear hRn
        replace hB2 := hB2n
        clear hB2n
        refine C.code ?_
        refine W.ret ?_
        refine C.retL (vs := [_]) Tryd.results39 ⟨⟨_, rfl, ld_agg Tryd.isAgg25 Tryd.sizeOf25 hB2 rfl⟩, trivial⟩ ?_
        have ht : prefixP ts (k + 1) a = .ok (.mk f.op 0 ⟨#[]⟩ [x1]) a1 := by have ht := (prefixP_1 (ts := ts) (k := k) (a := a) hfp); rw [hres1] at ht; exact ht
        rw [ht]
        have hsz9 := hKw.size
        have hl9 := hB28.lt
        exact ⟨_, _, rfl, Tr.mk1 hB28 (by omega) (hT1.mono (by intro b hb; omega)), hR, by omega, hKw⟩
      · refine OW.call rfl rfl (rc_func rfl rfl Tryd.call39) (ihp ts A c r N (a + 1) _ ⟨hR.ext hE24, hK.ext hE24, hNr, hGr, by first | assumption | omega, hn, hs, hG.ext hE24⟩ (by intro h; exact hne (by rw [prefixP_1 hfp, h]; rfl))) ?_
        intro _ wv26 hpost
        rw [hres1] at hpost
        obtain ⟨rfl, hR1, ha1, hE27⟩ := hpost
        refine .inr ⟨_, rfl, ?_⟩
        refine C.pan ?_
        have ht := (prefixP_1 (ts := ts) (k := k) (a := a) hfp)
        rw [hres1] at ht
        replace ht : prefixP ts (k + 1) a = .bad e1 a1 := ht
        rw [ht]
        exact ⟨rfl, hR1, ha1, hKw.both (hE24.kp hE27)⟩
      · exact absurd (by have ht := (prefixP_1 (ts := ts) (k := k) (a := a) hfp); rw [hres1] at ht; exact ht) hne
    · intro hb4_5
      first | rw [if_pos hb4_5] at hR | rw [if_neg (by simp [hb4_5])] at hR
      try have hlt' := takesB_lt hb4_5
      refine SQ.nil ?_
      refine C.code ?_
      refine W.cond_f rfl ?_
      refine W.skip ?_
      refine C.code ?_
      refine W.region ?_
      refine SQ.op rfl rfl rfl (r_add rfl rfl rfl (w64 (by omega))) ?_
      refine SQ.op rfl rfl rfl (r_move rfl rfl) ?_
      refine SQ.nil ?_
      refine C.round (i + 1) ⟨rfl, rfl, rfl, rfl, rfl, trivial⟩ ⟨hR, hK, hG, hQ, hB2, hKw, by omega, fun j g hj hg => ?_⟩ (by omega)
      rcases Nat.lt_or_ge j i with e | e
      · exact hno j g e hg
      · obtain rfl : j = i := by omega
        rw [hf] at hg; cases hg; assumption
  · have hfp : firstP ts a = none := find_no (fun j g hj hg => hno j g (by omega) hg)
    refine W.seq ?_
    refine W.region ?_
    refine SQ.opD false rfl rfl rfl (r_lss rfl rfl rfl) (by simp; omega) ?_
    refine SQ.nil ?_
    refine C.code ?_
    refine W.seq ?_
    refine W.cond_f rfl ?_
    refine W.exit rfl ?_
    refine C.code ?_
    refine W.seq ?_
    refine W.seq ?_
    refine W.region ?_
    refine SQ.op rfl rfl rfl (r_move rfl rfl) ?_
    have hsz48 := hKw.size
    refine SQ.call rfl rfl rfl (rc_func rfl rfl Tryd.call40) (takes_spec ts r N A c _ _ _ _ hR hK hNr (by first | assumption | omega) hn) ?_
    rintro _ wv49 ⟨rfl, hR2, hE50⟩
    refine ⟨_, rfl, ?_⟩
    replace hK := hK.kp hE50 (by intro b hb hs; omega)
    replace hG := hG.kp hE50 (by intro b hb hs; omega)
    replace hQ := hQ.kp hE50 (by omega)
    replace hB2 := hB2.kp hE50 (by omega)
    replace hKw := hKw.both hE50
    replace hR := hR2
    clear hR2
    refine both (G := fun v => SQ _ _ _ _ _ _ ((_, v) :: _) _) ?_ ?_
    · intro hb7_1
      first | rw [if_pos hb7_1] at hR | rw [if_neg (by simp [hb7_1])] at hR
      try have hlt' := takesB_lt hb7_1
      refine SQ.nil ?_
      refine C.code ?_
      refine W.cond_t rfl ?_
      refine W.seq ?_
      refine W.region ?_
      refine SQ.op rfl rfl rfl (r_move rfl rfl) ?_
      rcases hres2 : rankP ts k 0 (a + 1) with ⟨x2, a2⟩ | ⟨e2, a2⟩ | _
      · have hsz53 := hKw.size
        have hlt54 := hR.lt
        have hlt55 := hQ.lt
        have hlt56 := hB2.lt
        refine SQ.call rfl rfl rfl (rc_func rfl rfl Tryd.call27) (ihr ts A c r N (a + 1) 0 _ ⟨hR, hK, hNr, hGr, by first | assumption | omega, hn, hs, hG⟩ (by decide) (by decide) (by intro h; exact hne (by rw [prefixP_2 hfp (by assumption), h]; rfl))) ?_
        intro _ wv51 hpost
        rw [hres2] at hpost
        obtain ⟨A2, c2, rfl, hT2, hR2, ha2, hK52⟩ := hpost
        refine ⟨_, rfl, ?_⟩
        replace hK := hK.kp hK52 (by intro b hb hs; omega)
        replace hG := hG.kp hK52 (by intro b hb hs; omega)
        replace hQ := hQ.kp hK52 (by omega)
        replace hB2 := hB2.kp hK52 (by omega)
        replace hKw := hKw.both hK52
        replace hR := hR2
        have hsz61 := hKw.size
        refine SQ.new (v := (fun nb => .pointer (some ⟨nb, 0, none⟩))) rfl rfl rfl (r_alloc rfl Tryd.zeroValue25) ?_
        intro nb5 wv57 hge58 hlt59 hB5 hE60
        have hlt_hR_hB5 := Nat.lt_of_lt_of_le hR.lt hge58
        have hge_hG_hB5 := Nat.le_trans hG.size hge58
        have hlt_hQ_hB5 := Nat.lt_of_lt_of_le hQ.lt hge58
        have hlt_hB2_hB5 := Nat.lt_of_lt_of_le hB2.lt hge58
        replace hR := hR.ext hE60
        replace hK := hK.ext hE60
        replace hG := hG.ext hE60
        replace hQ := hQ.ext hE60
        replace hB2 := hB2.ext hE60
        replace hT2 := hT2.ext hE60
        replace hKw := hKw.ext hE60
        replace hB5 : Blk wv57 nb5 _ _ := hB5
        refine SQ.storeA rfl rfl rfl rfl rfl Tryd.sizeOf25 rfl hB5 ⟨rfl, rfl⟩ ?_
        intro wv62 hS64 hK63
        have hsz65 := hK63.size
        replace hR := hR.kp hK63 (by omega)
        replace hK := hK.kp hK63 (by intro b hb hs; omega)
        replace hG := hG.kp hK63 (by intro b hb hs; omega)
        replace hQ := hQ.kp hK63 (by omega)
        replace hB2 := hB2.kp hK63 (by omega)
        replace hT2 := hT2.kp hK63 (by intro b hb hs; omega)
        replace hB5 : Blk wv62 _ _ _ := hS64
        clear hS64
        replace hKw := hKw.new hK63 (by intro b hb; subst hb; omega)
        refine SQ.nil ?_
        refine C.code ?_
        refine W.seq ?_
        refine W.region ?_
        refine SQ.op rfl rfl rfl (r_move rfl rfl) ?_
        refine SQ.op rfl rfl rfl (r_move rfl rfl) ?_
        have hsz66 := hKw.size
        refine SQ.call rfl rfl rfl (rc_func rfl rfl Tryd.call40) (takes_spec ts r N A c _ _ _ _ hR hK hNr (by first | assumption | omega) hn) ?_
        rintro _ wv67 ⟨rfl, hR2, hE68⟩
        refine ⟨_, rfl, ?_⟩
        replace hK := hK.kp hE68 (by intro b hb hs; omega)
        replace hG := hG.kp hE68 (by intro b hb hs; omega)
        replace hQ := hQ.kp hE68 (by omega)
        replace hB2 := hB2.kp hE68 (by omega)
        replace hT2 := hT2.kp hE68 (by intro b hb hs; omega)
        replace hB5 := hB5.kp hE68 (by omega)
        replace hKw := hKw.both hE68
        replace hR := hR2
        clear hR2
        refine both (G := fun v => SQ _ _ _ _ _ _ ((_, v) :: _) _) ?_ ?_
        · intro hb9_2
          first | rw [if_pos hb9_2] at hR | rw [if_neg (by simp [hb9_2])] at hR
          try have hlt' := takesB_lt hb9_2
          refine SQ.call rfl rfl rfl (rc_func rfl rfl Tryd.call58) (must_ok _ _) ?_
          rintro _ wv69 ⟨rfl, hE70⟩
          refine ⟨_, rfl, ?_⟩
          replace hR := hR.ext hE70
          replace hK := hK.ext hE70
          replace hG := hG.ext hE70
          replace hQ := hQ.ext hE70
          replace hB2 := hB2.ext hE70
          replace hT2 := hT2.ext hE70
          replace hB5 := hB5.ext hE70
          replace hKw := hKw.ext hE70
          refine SQ.nil ?_
          refine C.code ?_
          refine W.seq ?_
          refine W.region ?_
          refine SQ.op rfl rfl rfl (r_loadAgg rfl rfl Tryd.isAgg25 Tryd.sizeOf25 rfl (by first | exact hB5.cells | exact hB2.cells | exact hQ.cells | exact hR.cells | assumption)) ?_
          refine SQ.storeA rfl rfl rfl rfl rfl Tryd.sizeOf25 rfl hB2 ⟨rfl, rfl⟩ ?_
          intro wv71 hS73 hK72
          have hsz74 := hK72.size
          replace hR := hR.kp hK72 (by omega)
          replace hK := hK.kp hK72 (by intro b hb hs; omega)
          replace hG := hG.kp hK72 (by intro b hb hs; omega)
          replace hQ := hQ.kp hK72 (by omega)
          replace hT2 := hT2.kp hK72 (by intro b hb hs; omega)
          replace hB5 := hB5.kp hK72 (by omega)
          replace hB2 : Blk wv71 _ _ _ := hS73
          clear hS73
          replace hKw := hKw.new hK72 (by intro b hb; subst hb; omega)
          refine SQ.nil ?_
          refine C.code ?_
          refine W.ret ?_
          refine C.retL (vs := [_]) Tryd.results39 ⟨⟨_, rfl, ld_agg Tryd.isAgg25 Tryd.sizeOf25 hB2 rfl⟩, trivial⟩ ?_
          have ht : prefixP ts (k + 1) a = .ok x2 (a2 + 1) := by have ht := (prefixP_2 (ts := ts) (k := k) (a := a) hfp (by assumption)); rw [hres2] at ht; exact ht.trans (if_pos (by assumption))
          rw [ht]
          have hsz9 := hKw.size
          have hl9 := hB5.lt
          exact ⟨_, _, rfl, hT2.mono (by intro b hb; omega), hR, by omega, hKw⟩
        · intro hb9_2
          first | rw [if_pos hb9_2] at hR | rw [if_neg (by simp [hb9_2])] at hR
          try have hlt' := takesB_lt hb9_2
          refine SQ.callP rfl rfl rfl (rc_func rfl rfl Tryd.call58) (must_bad _ _) ?_
          rintro _ wv75 ⟨rfl, hE76⟩
          refine .inr ⟨_, rfl, ?_⟩
          refine C.pan ?_
          have ht : prefixP ts (k + 1) a = .bad 5 _ := (by rw [prefixP_2 hfp (by assumption), hres2]; exact if_neg (by simp [*]))
          rw [ht]
          exact ⟨rfl, hR.ext hE76, by first | assumption | omega, hKw.ext hE76⟩
      · refine SQ.callP rfl rfl rfl (rc_func rfl rfl Tryd.call27) (ihr ts A c r N (a + 1) 0 _ ⟨hR, hK, hNr, hGr, by first | assumption | omega, hn, hs, hG⟩ (by decide) (by decide) (by intro h; exact hne (by rw [prefixP_2 hfp (by assumption), h]; rfl))) ?_
        intro _ wv51 hpost
        rw [hres2] at hpost
        obtain ⟨rfl, hR2, ha2, hK52⟩ := hpost
        refine .inr ⟨_, rfl, ?_⟩
        refine C.pan ?_
        have ht := (prefixP_2 (ts := ts) (k := k) (a := a) hfp (by assumption))
        rw [hres2] at ht
        replace ht : prefixP ts (k + 1) a = .bad e2 a2 := ht
        rw [ht]
        exact ⟨rfl, hR2, ha2, hKw.both hK52⟩
      · exact absurd (by have ht := (prefixP_2 (ts := ts) (k := k) (a := a) hfp (by assumption)); rw [hres2] at ht; exact ht) hne
    · intro hb7_1
      first | rw [if_pos hb7_1] at hR | rw [if_neg (by simp [hb7_1])] at hR
      try have hlt' := takesB_lt hb7_1
      refine SQ.nil ?_
      refine C.code ?_
      refine W.cond_f rfl ?_
      refine W.skip ?_
      refine C.code ?_
      refine W.seq ?_
      refine W.held (fun w' => Kp (fun b => False) wv49 w') mixed ?_
      intro wv77 hE78 _
      have hS79 : Kp (fun b => False) wv49 wv77 := hE78.to _
      refine AH.take 0 rfl (by kernel_rfl) (by kernel_rfl) (by kernel_rfl) PanOk.fn rfl rfl rfl hS79 (fun w' hS => r_move rfl rfl) ?_
      refine AH.take 1 rfl (by kernel_rfl) (by kernel_rfl) (by kernel_rfl) PanOk.fn rfl rfl rfl hS79 (fun w' hS => r_move rfl rfl) ?_
      refine AH.take 2 rfl (by kernel_rfl) (by kernel_rfl) (by kernel_rfl) PanOk.fn rfl rfl rfl hS79 (fun w' hS => r_nilCheck rfl rfl) ?_
      refine AH.take 3 rfl (by kernel_rfl) (by kernel_rfl) (by kernel_rfl) PanOk.fn rfl rfl rfl hS79 (fun w' hS => r_fieldAddr rfl rfl Tryd.underlying67 rfl Tryd.sizeOf3 rfl) ?_
      refine AH.take 4 rfl (by kernel_rfl) (by kernel_rfl) (by kernel_rfl) PanOk.fn rfl rfl rfl hS79 (fun w' hS => r_load rfl rfl Tryd.isAgg3 (by first | exact hS.cell (hB2.cell rfl) id | exact hS.cell (hQ.cell rfl) id | exact hS.cell (hR.cell rfl) id | assumption)) ?_
      refine AH.take 5 rfl (by kernel_rfl) (by kernel_rfl) (by kernel_rfl) PanOk.fn rfl rfl rfl hS79 (fun w' hS => r_move rfl rfl) ?_
      refine AH.take 6 rfl (by kernel_rfl) (by kernel_rfl) (by kernel_rfl) PanOk.fn rfl rfl rfl hS79 (fun w' hS => r_nilCheck rfl rfl) ?_
      refine AH.take 7 rfl (by kernel_rfl) (by kernel_rfl) (by kernel_rfl) PanOk.fn rfl rfl rfl hS79 (fun w' hS => r_fieldAddr rfl rfl Tryd.underlying67 rfl Tryd.sizeOf37 rfl) ?_
      refine AH.take 8 rfl (by kernel_rfl) (by kernel_rfl) (by kernel_rfl) PanOk.fn rfl rfl rfl hS79 (fun w' hS => r_load rfl rfl Tryd.isAgg37 (by first | exact hS.cell (hB2.cell rfl) id | exact hS.cell (hQ.cell rfl) id | exact hS.cell (hR.cell rfl) id | assumption)) ?_
      refine AH.take 9 rfl (by kernel_rfl) (by kernel_rfl) (by kernel_rfl) PanOk.fn rfl rfl rfl hS79 (fun w' hS => r_lenSlice rfl rfl Tryd.underlying37) ?_
      refine AH.take 10 rfl (by kernel_rfl) (by kernel_rfl) (by kernel_rfl) PanOk.fn rfl rfl rfl hS79 (fun w' hS => r_lss rfl rfl rfl) ?_
      refine AH.one 11 rfl (by kernel_rfl) rfl ?_
      refine OW.call rfl rfl (rc_func rfl rfl Tryd.call58) (must_spec _ _ _) ?_
      rintro _ wv80 ⟨⟨hb, rfl⟩ | ⟨hb, rfl⟩, hE81⟩
      · refine .inl ⟨_, rfl, ?_⟩
        have hS82 := hS79.ext hE81
        simp only [decide_eq_true_eq] at hb
        refine OW.next hS82 ?_
        refine AH.done (by kernel_rfl) ?_
        replace hR := hR.ext hS82
        replace hK := hK.ext hS82
        replace hG := hG.ext hS82
        replace hQ := hQ.ext hS82
        replace hB2 := hB2.ext hS82
        replace hKw := hKw.ext hS82
        refine C.code ?_
        refine W.seq ?_
        refine W.region ?_
        have hsz87 := hKw.size
        refine SQ.new (v := (fun nb => .map (some nb))) rfl rfl rfl (r_makeMap rfl) ?_
        intro nb52 wv83 hge84 hlt85 hB52 hE86
        have hlt_hR_hB52 := Nat.lt_of_lt_of_le hR.lt hge84
        have hge_hG_hB52 := Nat.le_trans hG.size hge84
        have hlt_hQ_hB52 := Nat.lt_of_lt_of_le hQ.lt hge84
        have hlt_hB2_hB52 := Nat.lt_of_lt_of_le hB2.lt hge84
        replace hR := hR.ext hE86
        replace hK := hK.ext hE86
        replace hG := hG.ext hE86
        replace hQ := hQ.ext hE86
        replace hB2 := hB2.ext hE86
        replace hKw := hKw.ext hE86
        replace hB52 : MpI wv83 nb52 .u8 [] := MpI.of _ hB52
        refine SQ.insertI rfl rfl rfl rfl rfl rfl Tryd.underlying108 Tryd.underlying5 hB52 rfl ?_
        intro wv88 hM90 hK89
        replace hR := hR.kp hK89 (by omega)
        replace hK := hK.kp hK89 (by intro b hb hs; omega)
        replace hG := hG.kp hK89 (by intro b hb hs; omega)
        replace hQ := hQ.kp hK89 (by omega)
        replace hB2 := hB2.kp hK89 (by omega)
        replace hB52 := hM90
        clear hM90
        replace hKw := hKw.new hK89 (by intro b hb; subst hb; omega)
        refine SQ.insertI rfl rfl rfl rfl rfl rfl Tryd.underlying108 Tryd.underlying5 hB52 rfl ?_
        intro wv91 hM93 hK92
        replace hR := hR.kp hK92 (by omega)
        replace hK := hK.kp hK92 (by intro b hb hs; omega)
        replace hG := hG.kp hK92 (by intro b hb hs; omega)
        replace hQ := hQ.kp hK92 (by omega)
        replace hB2 := hB2.kp hK92 (by omega)
        replace hB52 := hM93
        clear hM93
        replace hKw := hKw.new hK92 (by intro b hb; subst hb; omega)
        refine SQ.op rfl rfl rfl (r_move rfl rfl) ?_
        refine SQ.op rfl rfl rfl (r_assign rfl rfl) ?_
        refine SQ.nil ?_
        refine C.code ?_
        refine W.seq ?_
        obtain ⟨tok, htok⟩ : ∃ t, ts[a]? = some t := ⟨_, List.getElem?_eq_getElem (by omega)⟩
        have hts := hs tok (List.mem_of_getElem? htok)
        obtain ⟨bt, ot, rfl, hbt, hCt⟩ := hK.get htok
        refine W.held (fun w' => Kp (fun b => False) wv91 w') mixed ?_
        intro wv94 hE95 _
        have hS96 : Kp (fun b => False) wv91 wv94 := hE95.to _
        refine AH.take 0 rfl (by kernel_rfl) (by kernel_rfl) (by kernel_rfl) PanOk.fn rfl rfl rfl hS96 (fun w' hS => r_move rfl rfl) ?_
        refine AH.take 1 rfl (by kernel_rfl) (by kernel_rfl) (by kernel_rfl) PanOk.fn rfl rfl rfl hS96 (fun w' hS => r_nilCheck rfl rfl) ?_
        refine AH.take 2 rfl (by kernel_rfl) (by kernel_rfl) (by kernel_rfl) PanOk.fn rfl rfl rfl hS96 (fun w' hS => r_fieldAddr rfl rfl Tryd.underlying67 rfl Tryd.sizeOf37 rfl) ?_
        refine AH.take 3 rfl (by kernel_rfl) (by kernel_rfl) (by kernel_rfl) PanOk.fn rfl rfl rfl hS96 (fun w' hS => r_load rfl rfl Tryd.isAgg37 (by first | exact hS.cell (hCt.cell rfl) id | exact hS.cell (hB2.cell rfl) id | exact hS.cell (hQ.cell rfl) id | exact hS.cell (hR.cell rfl) id | assumption)) ?_
        refine AH.take 4 rfl (by kernel_rfl) (by kernel_rfl) (by kernel_rfl) PanOk.fn rfl rfl rfl hS96 (fun w' hS => r_move rfl rfl) ?_
        refine AH.take 5 rfl (by kernel_rfl) (by kernel_rfl) (by kernel_rfl) PanOk.fn rfl rfl rfl hS96 (fun w' hS => r_nilCheck rfl rfl) ?_
        refine AH.take 6 rfl (by kernel_rfl) (by kernel_rfl) (by kernel_rfl) PanOk.fn rfl rfl rfl hS96 (fun w' hS => r_fieldAddr rfl rfl Tryd.underlying67 rfl Tryd.sizeOf3 rfl) ?_
        refine AH.take 7 rfl (by kernel_rfl) (by kernel_rfl) (by kernel_rfl) PanOk.fn rfl rfl rfl hS96 (fun w' hS => r_load rfl rfl Tryd.isAgg3 (by first | exact hS.cell (hCt.cell rfl) id | exact hS.cell (hB2.cell rfl) id | exact hS.cell (hQ.cell rfl) id | exact hS.cell (hR.cell rfl) id | assumption)) ?_
        refine AH.take 8 rfl (by kernel_rfl) (by kernel_rfl) (by kernel_rfl) PanOk.fn rfl rfl rfl hS96 (fun w' hS => r_indexAddr rfl rfl rfl Tryd.underlying37 Tryd.sizeOf57 rfl (by omega)) ?_
        refine AH.take 9 rfl (by kernel_rfl) (by kernel_rfl) (by kernel_rfl) PanOk.fn rfl rfl rfl hS96 (fun w' hS => r_loadAgg rfl rfl Tryd.isAgg57 Tryd.sizeOf57 rfl (by first | exact (fun j v hv => hS.cell (hCt j v hv) id) | exact (fun j v hv => hS.cell (hB2.cells j v hv) id) | exact (fun j v hv => hS.cell (hQ.cells j v hv) id) | exact (fun j v hv => hS.cell (hR.cells j v hv) id) | assumption)) ?_
        refine AH.one 10 rfl (by kernel_rfl) rfl ?_
        have hsz102 := hS96.size
        have hlt0_hR_hB7 := hR.lt
        have hlt0_hQ_hB7 := hQ.lt
        have hlt0_hB2_hB7 := hB2.lt
        have hlt0_hB52_hB7 := hB52.lt
        have hsz103 := hKw.size
        refine OW.new (v := (fun nb => .pointer (some ⟨nb, 0, none⟩))) rfl rfl (r_alloc rfl Tryd.zeroValue57) ?_
        intro nb7 wv97 hge100 hlt101 hB7 hE98
        replace hB7 : Blk wv97 nb7 _ _ := hB7
        have hS99 := hS96.ext hE98
        have hA104 := Ext.trans hE95 hE98
        refine OW.next hS99 ?_
        refine AH.one 11 rfl (by kernel_rfl) rfl ?_
        refine OW.storeA rfl rfl rfl rfl Tryd.sizeOf57 rfl hB7 ⟨rfl, rfl⟩ ?_
        intro wv105 hn108 hE106
        replace hB7 : Blk wv105 _ _ _ := hn108
        clear hn108
        have hS107 : Kp (fun b => False) wv91 wv105 := hS99.new hE106 (by intro b hb; subst hb; omega)
        refine OW.next hS107 ?_
        refine AH.done (by kernel_rfl) ?_
        replace hR := hR.ext hS107
        replace hK := hK.ext hS107
        replace hG := hG.ext hS107
        replace hQ := hQ.ext hS107
        replace hB2 := hB2.ext hS107
        replace hB52 := hB52.ext hS107
        replace hCt := hCt.ext hS107
        replace hKw := hKw.ext hS107
        refine C.code ?_
        refine W.seq ?_
        by_cases hk1 : tok.k = 1
        · have hl : lookI [(1, .func (.func 59) #[] #[]), (2, .func (.func 60) #[] #[])] tok.k = some (.func (.func 59) #[] #[]) := by simp [lookI, hk1]
          refine W.region ?_
          refine SQ.op rfl rfl rfl (r_move rfl rfl) ?_
          refine SQ.op rfl rfl rfl (r_fieldAddr rfl rfl Tryd.underlying57 rfl Tryd.sizeOf5 rfl) ?_
          refine SQ.op rfl rfl rfl (r_load rfl rfl Tryd.isAgg5 (by first | exact hB7.cell rfl | exact hCt.cell rfl | exact hB2.cell rfl | exact hQ.cell rfl | exact hR.cell rfl | assumption)) ?_
          refine SQ.op rfl rfl rfl (Run.to (v' := .tuple #[.func (.func 59) #[] #[], .bool true]) (r_lookupI rfl rfl rfl Tryd.underlying108 Tryd.underlying5 Tryd.zeroValue107 hB52) (by show Value.tuple #[(lookI [(1, .func (.func 59) #[] #[]), (2, .func (.func 60) #[] #[])] tok.k).getD _, .bool (lookI [(1, .func (.func 59) #[] #[]), (2, .func (.func 60) #[] #[])] tok.k).isSome] = _; rw [hl]; rfl)) ?_
          refine SQ.op rfl rfl rfl (r_move rfl rfl) ?_
          refine SQ.op rfl rfl rfl (r_extract rfl rfl rfl) ?_
          refine SQ.op rfl rfl rfl (r_extract rfl rfl rfl) ?_
          refine SQ.op rfl rfl rfl (r_assign rfl rfl) ?_
          refine SQ.op rfl rfl rfl (r_assign rfl rfl) ?_
          refine SQ.nil ?_
          refine C.code ?_
          refine W.seq ?_
          refine W.region ?_
          refine SQ.op rfl rfl rfl (r_move rfl rfl) ?_
          refine SQ.op rfl rfl rfl (r_move rfl rfl) ?_
          refine SQ.call rfl rfl rfl (rc_func rfl rfl Tryd.call58) (must_ok _ _) ?_
          rintro _ wv109 ⟨rfl, hE110⟩
          refine ⟨_, rfl, ?_⟩
          replace hR := hR.ext hE110
          replace hK := hK.ext hE110
          replace hG := hG.ext hE110
          replace hQ := hQ.ext hE110
          replace hB2 := hB2.ext hE110
          replace hB52 := hB52.ext hE110
          replace hCt := hCt.ext hE110
          replace hB7 := hB7.ext hE110
          replace hKw := hKw.ext hE110
          refine SQ.nil ?_
          refine C.code ?_
          refine W.seq ?_
          refine W.region ?_
          refine SQ.op rfl rfl rfl (r_move rfl rfl) ?_
          refine SQ.op rfl rfl rfl (r_fieldAddr rfl rfl Tryd.underlying57 rfl Tryd.sizeOf9 rfl) ?_
          refine SQ.op rfl rfl rfl (r_load rfl rfl Tryd.isAgg9 (by first | exact hB7.cell rfl | exact hCt.cell rfl | exact hB2.cell rfl | exact hQ.cell rfl | exact hR.cell rfl | assumption)) ?_
          refine SQ.call rfl rfl rfl (rc_value (fs := []) (cs := []) rfl rfl rfl Tryd.call59) (exOfWord_spec tok.t hts _) ?_
          rintro _ wv111 ⟨rfl, hE112⟩
          refine ⟨_, rfl, ?_⟩
          replace hR := hR.ext hE112
          replace hK := hK.ext hE112
          replace hG := hG.ext hE112
          replace hQ := hQ.ext hE112
          replace hB2 := hB2.ext hE112
          replace hB52 := hB52.ext hE112
          replace hCt := hCt.ext hE112
          replace hB7 := hB7.ext hE112
          replace hKw := hKw.ext hE112
          refine SQ.op rfl rfl rfl (r_move rfl rfl) ?_
          refine SQ.op rfl rfl rfl (r_extract rfl rfl rfl) ?_
          refine SQ.op rfl rfl rfl (r_extract rfl rfl rfl) ?_
          have hsz117 := hKw.size
          refine SQ.new (v := (fun nb => .pointer (some ⟨nb, 0, none⟩))) rfl rfl rfl (r_alloc rfl Tryd.zeroValue25) ?_
          intro nb10 wv113 hge114 hlt115 hB10 hE116
          have hlt_hR_hB10 := Nat.lt_of_lt_of_le hR.lt hge114
          have hge_hG_hB10 := Nat.le_trans hG.size hge114
          have hlt_hQ_hB10 := Nat.lt_of_lt_of_le hQ.lt hge114
          have hlt_hB2_hB10 := Nat.lt_of_lt_of_le hB2.lt hge114
          have hlt_hB52_hB10 := Nat.lt_of_lt_of_le hB52.lt hge114
          have hlt_hB7_hB10 := Nat.lt_of_lt_of_le hB7.lt hge114
          replace hR := hR.ext hE116
          replace hK := hK.ext hE116
          replace hG := hG.ext hE116
          replace hQ := hQ.ext hE116
          replace hB2 := hB2.ext hE116
          replace hB52 := hB52.ext hE116
          replace hCt := hCt.ext hE116
          replace hB7 := hB7.ext hE116
          replace hKw := hKw.ext hE116
          replace hB10 : Blk wv113 nb10 _ _ := hB10
          refine SQ.storeA rfl rfl rfl rfl rfl Tryd.sizeOf25 rfl hB10 ⟨rfl, rfl⟩ ?_
          intro wv118 hS120 hK119
          have hsz121 := hK119.size
          replace hR := hR.kp hK119 (by omega)
          replace hK := hK.kp hK119 (by intro b hb hs; omega)
          replace hG := hG.kp hK119 (by intro b hb hs; omega)
          replace hQ := hQ.kp hK119 (by omega)
          replace hB2 := hB2.kp hK119 (by omega)
          replace hB52 := hB52.kp hK119 (by omega)
          replace hCt := hCt.kp hK119 (by omega)
          replace hB7 := hB7.kp hK119 (by omega)
          replace hB10 : Blk wv118 _ _ _ := hS120
          clear hS120
          replace hKw := hKw.new hK119 (by intro b hb; subst hb; omega)
          refine SQ.op rfl rfl rfl (r_assign rfl rfl) ?_
          refine SQ.nil ?_
          refine C.code ?_
          refine W.seq ?_
          refine W.seq ?_
          refine W.region ?_
          refine SQ.op rfl rfl rfl (r_move rfl rfl) ?_
          refine SQ.op rfl rfl rfl (r_neqInt rfl rfl rfl) ?_
          refine SQ.nil ?_
          refine C.code ?_
          refine W.cond rfl ?_ ?_
          · intro hc122
            try simp only [decide_eq_true_eq, decide_eq_false_iff_not, Bool.not_eq_true', Bool.not_eq_false', Bool.not_true, Bool.not_false, Bool.not_eq_true, Bool.not_eq_false] at hc122
            refine W.region ?_
            refine SQ.op rfl rfl rfl (r_move rfl rfl) ?_
            refine SQ.op rfl rfl rfl (r_build (pl := [(0, 1)]) rfl rfl Tryd.underlying69 Tryd.zeroValue69 (fun _ => by kernel_rfl) rfl rfl) ?_
            refine SQ.op rfl rfl rfl (r_makeIface rfl rfl (by kernel_rfl)) ?_
            refine SQ.panicI rfl rfl rfl ?_
            refine C.pan ?_
            have ht : prefixP ts (k + 1) a = .bad (ofWordR tok.t).2 a := (by rw [prefixP_4 hfp (by assumption) htok, atomR, if_pos hk1, if_neg (by assumption)])
            rw [ht]
            exact ⟨rfl, hR, ha, hKw⟩
          · intro hc122
            try simp only [decide_eq_true_eq, decide_eq_false_iff_not, Bool.not_eq_true', Bool.not_eq_false', Bool.not_true, Bool.not_false, Bool.not_eq_true, Bool.not_eq_false] at hc122
            refine W.skip ?_
            refine C.code ?_
            refine W.seq ?_
            refine W.region ?_
            refine SQ.op rfl rfl rfl (r_move rfl rfl) ?_
            refine SQ.op rfl rfl rfl (r_nilCheck rfl rfl) ?_
            refine SQ.op rfl rfl rfl (r_fieldAddr rfl rfl Tryd.underlying67 rfl Tryd.sizeOf3 rfl) ?_
            refine SQ.op rfl rfl rfl (r_load rfl rfl Tryd.isAgg3 (by first | exact hB10.cell rfl | exact hB7.cell rfl | exact hCt.cell rfl | exact hB2.cell rfl | exact hQ.cell rfl | exact hR.cell rfl | assumption)) ?_
            refine SQ.op rfl rfl rfl (r_add rfl rfl rfl (w64 (by omega))) ?_
            refine SQ.op rfl rfl rfl (r_nilCheck rfl rfl) ?_
            refine SQ.op rfl rfl rfl (r_fieldAddr rfl rfl Tryd.underlying67 rfl Tryd.sizeOf3 rfl) ?_
            refine SQ.store rfl rfl rfl rfl rfl Tryd.sizeOf3 rfl hR rfl ?_
            intro wv123 hS125 hK124
            have hsz126 := hK124.size
            replace hK := hK.kp hK124 (by intro b hb hs; omega)
            replace hG := hG.kp hK124 (by intro b hb hs; omega)
            replace hQ := hQ.kp hK124 (by omega)
            replace hB2 := hB2.kp hK124 (by omega)
            replace hB52 := hB52.kp hK124 (by omega)
            replace hCt := hCt.kp hK124 (by omega)
            replace hB7 := hB7.kp hK124 (by omega)
            replace hB10 := hB10.kp hK124 (by omega)
            replace hR : Blk wv123 _ _ _ := hS125
            clear hS125
            replace hKw := hKw.both hK124
            refine SQ.nil ?_
            refine C.code ?_
            refine W.seq ?_
            refine W.region ?_
            refine SQ.op rfl rfl rfl (r_loadAgg rfl rfl Tryd.isAgg25 Tryd.sizeOf25 rfl (by first | exact hB10.cells | exact hB7.cells | exact hCt | exact hB2.cells | exact hQ.cells | exact hR.cells | assumption)) ?_
            refine SQ.storeA rfl rfl rfl rfl rfl Tryd.sizeOf25 rfl hB2 ⟨rfl, rfl⟩ ?_
            intro wv127 hS129 hK128
            have hsz130 := hK128.size
            replace hR := hR.kp hK128 (by omega)
            replace hK := hK.kp hK128 (by intro b hb hs; omega)
            replace hG := hG.kp hK128 (by intro b hb hs; omega)
            replace hQ := hQ.kp hK128 (by omega)
            replace hB52 := hB52.kp hK128 (by omega)
            replace hCt := hCt.kp hK128 (by omega)
            replace hB7 := hB7.kp hK128 (by omega)
            replace hB10 := hB10.kp hK128 (by omega)
            replace hB2 : Blk wv127 _ _ _ := hS129
            clear hS129
            replace hKw := hKw.new hK128 (by intro b hb; subst hb; omega)
            refine SQ.nil ?_
            refine C.code ?_
            refine W.ret ?_
            refine C.retL (vs := [_]) Tryd.results39 ⟨⟨_, rfl, ld_agg Tryd.isAgg25 Tryd.sizeOf25 hB2 rfl⟩, trivial⟩ ?_
            have ht : prefixP ts (k + 1) a = .ok (ofWordR tok.t).1 (a + 1) := (by rw [prefixP_4 hfp (by assumption) htok, atomR, if_pos hk1, if_pos (by assumption)])
            rw [ht]
            exact ⟨none, 0, rfl, ofWordR_tr _ _ _ hts, hR, by omega, hKw⟩
        · by_cases hk2 : tok.k = 2
          · have hl : lookI [(1, .func (.func 59) #[] #[]), (2, .func (.func 60) #[] #[])] tok.k = some (.func (.func 60) #[] #[]) := by simp [lookI, hk2]
            refine W.region ?_
            refine SQ.op rfl rfl rfl (r_move rfl rfl) ?_
            refine SQ.op rfl rfl rfl (r_fieldAddr rfl rfl Tryd.underlying57 rfl Tryd.sizeOf5 rfl) ?_
            refine SQ.op rfl rfl rfl (r_load rfl rfl Tryd.isAgg5 (by first | exact hB7.cell rfl | exact hCt.cell rfl | exact hB2.cell rfl | exact hQ.cell rfl | exact hR.cell rfl | assumption)) ?_
            refine SQ.op rfl rfl rfl (Run.to (v' := .tuple #[.func (.func 60) #[] #[], .bool true]) (r_lookupI rfl rfl rfl Tryd.underlying108 Tryd.underlying5 Tryd.zeroValue107 hB52) (by show Value.tuple #[(lookI [(1, .func (.func 59) #[] #[]), (2, .func (.func 60) #[] #[])] tok.k).getD _, .bool (lookI [(1, .func (.func 59) #[] #[]), (2, .func (.func 60) #[] #[])] tok.k).isSome] = _; rw [hl]; rfl)) ?_
            refine SQ.op rfl rfl rfl (r_move rfl rfl) ?_
            refine SQ.op rfl rfl rfl (r_extract rfl rfl rfl) ?_
            refine SQ.op rfl rfl rfl (r_extract rfl rfl rfl) ?_
            refine SQ.op rfl rfl rfl (r_assign rfl rfl) ?_
            refine SQ.op rfl rfl rfl (r_assign rfl rfl) ?_
            refine SQ.nil ?_
            refine C.code ?_
            refine W.seq ?_
            refine W.region ?_
            refine SQ.op rfl rfl rfl (r_move rfl rfl) ?_
            refine SQ.op rfl rfl rfl (r_move rfl rfl) ?_
            refine SQ.call rfl rfl rfl (rc_func rfl rfl Tryd.call58) (must_ok _ _) ?_
            rintro _ wv131 ⟨rfl, hE132⟩
            refine ⟨_, rfl, ?_⟩
            replace hR := hR.ext hE132
            replace hK := hK.ext hE132
            replace hG := hG.ext hE132
            replace hQ := hQ.ext hE132
            replace hB2 := hB2.ext hE132
            replace hB52 := hB52.ext hE132
            replace hCt := hCt.ext hE132
            replace hB7 := hB7.ext hE132
            replace hKw := hKw.ext hE132
            refine SQ.nil ?_
            refine C.code ?_
            refine W.seq ?_
            refine W.region ?_
            refine SQ.op rfl rfl rfl (r_move rfl rfl) ?_
            refine SQ.op rfl rfl rfl (r_fieldAddr rfl rfl Tryd.underlying57 rfl Tryd.sizeOf9 rfl) ?_
            refine SQ.op rfl rfl rfl (r_load rfl rfl Tryd.isAgg9 (by first | exact hB7.cell rfl | exact hCt.cell rfl | exact hB2.cell rfl | exact hQ.cell rfl | exact hR.cell rfl | assumption)) ?_
            refine SQ.call rfl rfl rfl (rc_value (fs := []) (cs := []) rfl rfl rfl Tryd.call60) (exOfNumber_spec tok.t hts _ hG) ?_
            rintro _ wv133 ⟨rfl, hE134⟩
            refine ⟨_, rfl, ?_⟩
            replace hR := hR.ext hE134
            replace hK := hK.ext hE134
            replace hG := hG.ext hE134
            replace hQ := hQ.ext hE134
            replace hB2 := hB2.ext hE134
            replace hB52 := hB52.ext hE134
            replace hCt := hCt.ext hE134
            replace hB7 := hB7.ext hE134
            replace hKw := hKw.ext hE134
            refine SQ.op rfl rfl rfl (r_move rfl rfl) ?_
            refine SQ.op rfl rfl rfl (r_extract rfl rfl rfl) ?_
            refine SQ.op rfl rfl rfl (r_extract rfl rfl rfl) ?_
            have hsz139 := hKw.size
            refine SQ.new (v := (fun nb => .pointer (some ⟨nb, 0, none⟩))) rfl rfl rfl (r_alloc rfl Tryd.zeroValue25) ?_
            intro nb10 wv135 hge136 hlt137 hB10 hE138
            have hlt_hR_hB10 := Nat.lt_of_lt_of_le hR.lt hge136
            have hge_hG_hB10 := Nat.le_trans hG.size hge136
            have hlt_hQ_hB10 := Nat.lt_of_lt_of_le hQ.lt hge136
            have hlt_hB2_hB10 := Nat.lt_of_lt_of_le hB2.lt hge136
            have hlt_hB52_hB10 := Nat.lt_of_lt_of_le hB52.lt hge136
            have hlt_hB7_hB10 := Nat.lt_of_lt_of_le hB7.lt hge136
            replace hR := hR.ext hE138
            replace hK := hK.ext hE138
            replace hG := hG.ext hE138
            replace hQ := hQ.ext hE138
            replace hB2 := hB2.ext hE138
            replace hB52 := hB52.ext hE138
            replace hCt := hCt.ext hE138
            replace hB7 := hB7.ext hE138
            replace hKw := hKw.ext hE138
            replace hB10 : Blk wv135 nb10 _ _ := hB10
            refine SQ.storeA rfl rfl rfl rfl rfl Tryd.sizeOf25 rfl hB10 ⟨rfl, rfl⟩ ?_
            intro wv140 hS142 hK141
            have hsz143 := hK141.size
            replace hR := hR.kp hK141 (by omega)
            replace hK := hK.kp hK141 (by intro b hb hs; omega)
            replace hG := hG.kp hK141 (by intro b hb hs; omega)
            replace hQ := hQ.kp hK141 (by omega)
            replace hB2 := hB2.kp hK141 (by omega)
            replace hB52 := hB52.kp hK141 (by omega)
            replace hCt := hCt.kp hK141 (by omega)
            replace hB7 := hB7.kp hK141 (by omega)
            replace hB10 : Blk wv140 _ _ _ := hS142
            clear hS142
            replace hKw := hKw.new hK141 (by intro b hb; subst hb; omega)
            refine SQ.op rfl rfl rfl (r_assign rfl rfl) ?_
            refine SQ.nil ?_
            refine C.code ?_
            refine W.seq ?_
            refine W.seq ?_
            refine W.region ?_
            refine SQ.op rfl rfl rfl (r_move rfl rfl) ?_
            refine SQ.op rfl rfl rfl (r_neqInt rfl rfl rfl) ?_
            refine SQ.nil ?_
            refine C.code ?_
            refine W.cond rfl ?_ ?_
            · intro hc144
              try simp only [decide_eq_true_eq, decide_eq_false_iff_not, Bool.not_eq_true', Bool.not_eq_false', Bool.not_true, Bool.not_false, Bool.not_eq_true, Bool.not_eq_false] at hc144
              refine W.region ?_
              refine SQ.op rfl rfl rfl (r_move rfl rfl) ?_
              refine SQ.op rfl rfl rfl (r_build (pl := [(0, 1)]) rfl rfl Tryd.underlying69 Tryd.zeroValue69 (fun _ => by kernel_rfl) rfl rfl) ?_
              refine SQ.op rfl rfl rfl (r_makeIface rfl rfl (by kernel_rfl)) ?_
              refine SQ.panicI rfl rfl rfl ?_
              refine C.pan ?_
              have ht : prefixP ts (k + 1) a = .bad (ofNumberR tok.t).2 a := (by rw [prefixP_4 hfp (by assumption) htok, atomR, if_neg hk1, if_pos hk2, if_neg (by assumption)])
              rw [ht]
              exact ⟨rfl, hR, ha, hKw⟩
            · intro hc144
              try simp only [decide_eq_true_eq, decide_eq_false_iff_not, Bool.not_eq_true', Bool.not_eq_false', Bool.not_true, Bool.not_false, Bool.not_eq_true, Bool.not_eq_false] at hc144
              refine W.skip ?_
              refine C.code ?_
              refine W.seq ?_
              refine W.region ?_
              refine SQ.op rfl rfl rfl (r_move rfl rfl) ?_
              refine SQ.op rfl rfl rfl (r_nilCheck rfl rfl) ?_
              refine SQ.op rfl rfl rfl (r_fieldAddr rfl rfl Tryd.underlying67 rfl Tryd.sizeOf3 rfl) ?_
              refine SQ.op rfl rfl rfl (r_load rfl rfl Tryd.isAgg3 (by first | exact hB10.cell rfl | exact hB7.cell rfl | exact hCt.cell rfl | exact hB2.cell rfl | exact hQ.cell rfl | exact hR.cell rfl | assumption)) ?_
              refine SQ.op rfl rfl rfl (r_add rfl rfl rfl (w64 (by omega))) ?_
              refine SQ.op rfl rfl rfl (r_nilCheck rfl rfl) ?_
              refine SQ.op rfl rfl rfl (r_fieldAddr rfl rfl Tryd.underlying67 rfl Tryd.sizeOf3 rfl) ?_
              refine SQ.store rfl rfl rfl rfl rfl Tryd.sizeOf3 rfl hR rfl ?_
              intro wv145 hS147 hK146
              have hsz148 := hK146.size
              replace hK := hK.kp hK146 (by intro b hb hs; omega)
              replace hG := hG.kp hK146 (by intro b hb hs; omega)
              replace hQ := hQ.kp hK146 (by omega)
              replace hB2 := hB2.kp hK146 (by omega)
              replace hB52 := hB52.kp hK146 (by omega)
              replace hCt := hCt.kp hK146 (by omega)
              replace hB7 := hB7.kp hK146 (by omega)
              replace hB10 := hB10.kp hK146 (by omega)
              replace hR : Blk wv145 _ _ _ := hS147
              clear hS147
              replace hKw := hKw.both hK146
              refine SQ.nil ?_
              refine C.code ?_
              refine W.seq ?_
              refine W.region ?_
              refine SQ.op rfl rfl rfl (r_loadAgg rfl rfl Tryd.isAgg25 Tryd.sizeOf25 rfl (by first | exact hB10.cells | exact hB7.cells | exact hCt | exact hB2.cells | exact hQ.cells | exact hR.cells | assumption)) ?_
              refine SQ.storeA rfl rfl rfl rfl rfl Tryd.sizeOf25 rfl hB2 ⟨rfl, rfl⟩ ?_
              intro wv149 hS151 hK150
              have hsz152 := hK150.size
              replace hR := hR.kp hK150 (by omega)
              replace hK := hK.kp hK150 (by intro b hb hs; omega)
              replace hG := hG.kp hK150 (by intro b hb hs; omega)
              replace hQ := hQ.kp hK150 (by omega)
              replace hB52 := hB52.kp hK150 (by omega)
              replace hCt := hCt.kp hK150 (by omega)
              replace hB7 := hB7.kp hK150 (by omega)
              replace hB10 := hB10.kp hK150 (by omega)
              replace hB2 : Blk wv149 _ _ _ := hS151
              clear hS151
              replace hKw := hKw.new hK150 (by intro b hb; subst hb; omega)
              refine SQ.nil ?_
              refine C.code ?_
              refine W.ret ?_
              refine C.retL (vs := [_]) Tryd.results39 ⟨⟨_, rfl, ld_agg Tryd.isAgg25 Tryd.sizeOf25 hB2 rfl⟩, trivial⟩ ?_
              have ht : prefixP ts (k + 1) a = .ok (ofNumberR tok.t).1 (a + 1) := (by rw [prefixP_4 hfp (by assumption) htok, atomR, if_neg hk1, if_pos hk2, if_pos (by assumption)])
              rw [ht]
              exact ⟨none, 0, rfl, ofNumberR_tr _ _ _, hR, by omega, hKw⟩
          · have hl : lookI [(1, .func (.func 59) #[] #[]), (2, .func (.func 60) #[] #[])] tok.k = none := by simp [lookI, hk1, hk2]
            refine W.region ?_
            refine SQ.op rfl rfl rfl (r_move rfl rfl) ?_
            refine SQ.op rfl rfl rfl (r_fieldAddr rfl rfl Tryd.underlying57 rfl Tryd.sizeOf5 rfl) ?_
            refine SQ.op rfl rfl rfl (r_load rfl rfl Tryd.isAgg5 (by first | exact hB7.cell rfl | exact hCt.cell rfl | exact hB2.cell rfl | exact hQ.cell rfl | exact hR.cell rfl | assumption)) ?_
            refine SQ.op rfl rfl rfl (Run.to (v' := .tuple #[.nilFunc, .bool false]) (r_lookupI rfl rfl rfl Tryd.underlying108 Tryd.underlying5 Tryd.zeroValue107 hB52) (by show Value.tuple #[(lookI [(1, .func (.func 59) #[] #[]), (2, .func (.func 60) #[] #[])] tok.k).getD _, .bool (lookI [(1, .func (.func 59) #[] #[]), (2, .func (.func 60) #[] #[])] tok.k).isSome] = _; rw [hl]; rfl)) ?_
            refine SQ.op rfl rfl rfl (r_move rfl rfl) ?_
            refine SQ.op rfl rfl rfl (r_extract rfl rfl rfl) ?_
            refine SQ.op rfl rfl rfl (r_extract rfl rfl rfl) ?_
            refine SQ.op rfl rfl rfl (r_assign rfl rfl) ?_
            refine SQ.op rfl rfl rfl (r_assign rfl rfl) ?_
            refine SQ.nil ?_
            refine C.code ?_
            refine W.seq ?_
            refine W.region ?_
            refine SQ.op rfl rfl rfl (r_move rfl rfl) ?_
            refine SQ.op rfl rfl rfl (r_move rfl rfl) ?_
            refine SQ.callP rfl rfl rfl (rc_func rfl rfl Tryd.call58) (must_bad _ _) ?_
            rintro _ wv153 ⟨rfl, hE154⟩
            refine .inr ⟨_, rfl, ?_⟩
            refine C.pan ?_
            have ht : prefixP ts (k + 1) a = .bad 5 _ := (by rw [prefixP_4 hfp (by assumption) htok, atomR, if_neg hk1, if_neg hk2])
            rw [ht]
            exact ⟨rfl, hR.ext hE154, by first | assumption | omega, hKw.ext hE154⟩
      · refine .inr ⟨_, rfl, ?_⟩
        simp only [decide_eq_false_iff_not] at hb
        refine C.pan ?_
        rw [prefixP_3 hfp (by assumption) (List.getElem?_eq_none (by omega))]
        exact ⟨rfl, (hR.ext hE78).ext hE81, ha, (hKw.ext hE78).ext hE81⟩

theorem Res.andThen_ok (r : Res) : r.andThen .ok = r := by cases r <;> rfl
theorem rankP_1 {ts : List Tok} {k a : Nat} {n : Int} (h : 6 ≤ n) : rankP ts (k + 1) n a = (prefixP ts k a).andThen .ok := by rw [rankP, if_pos h, Res.andThen_ok]
theorem rankP_2 {ts : List Tok} {k a : Nat} {n : Int} (h : ¬ 6 ≤ n) (h0 : n = 0) (hb : takesB ts a 1 ⟨#[105, 102]⟩ = true) : rankP ts (k + 1) n a = (choiceP ts k (a + 1)).andThen .ok := by rw [rankP, if_neg h, if_pos ⟨h0, hb⟩, Res.andThen_ok]
theorem rankP_3 {ts : List Tok} {k a : Nat} {n : Int} (h : ¬ 6 ≤ n) (h0 : ¬ (n = 0 ∧ takesB ts a 1 ⟨#[105, 102]⟩ = true)) : rankP ts (k + 1) n a = (rankP ts k (n + 1) a).andThen fun x a => loopP ts k n x a := by rw [rankP, if_neg h, if_neg h0]
theorem loopP_none {ts : List Tok} {k a : Nat} {n : Int} {x : Ex} (h : firstF ts a n = none) : loopP ts (k + 1) n x a = .ok x a := by rw [loopP, h]
theorem loopP_some {ts : List Tok} {k a : Nat} {n : Int} {x : Ex} {f : Form} (h : firstF ts a n = some f) : loopP ts (k + 1) n x a = (rankP ts k (asksR f).2 (a + 1)).andThen fun y a => if n = 0 ∨ n = 3 then .ok (.mk f.op 0 ⟨#[]⟩ [x, y]) a else loopP ts k n (.mk f.op 0 ⟨#[]⟩ [x, y]) a := by rw [loopP, h]
theorem pairs_rank {f : Form} (h : f ∈ pairsF) : (0 ≤ f.rank ∧ f.rank ≤ 7) ∧ 0 ≤ (asksR f).2 ∧ (asksR f).2 ≤ 7 := by
  simp only [pairsF, List.mem_cons, List.not_mem_nil, or_false] at h
  rcases h with rfl | rfl | rfl | rfl | rfl | rfl | rfl | rfl | rfl | rfl | rfl | rfl <;> decide

/-- (*belfry.exprs.reader).rank -/
theorem rank_step (k : Nat) (ihr : ∀ m, m ≤ k → RankAt m) (ihp : ∀ m, m ≤ k → PrefAt m) (ihc : ∀ m, m ≤ k → ChoiceAt m) (ts : List Tok) (A : Option Addr) (c r N a : Nat) (n : Int) (w : World) (hRd : Rd w ts A c r N a) (h0n : 0 ≤ n) (hn7 : n ≤ 7) (hne : rankP ts (k + 1) n a ≠ .oof) :
    Calls Tryd.prog 27 #[.pointer (some ⟨r, 0, none⟩), .int .i64 n] w fun e w' => PPost A ts.length c r w (rankP ts (k + 1) n a) e w' := by
  obtain ⟨hR, hK, hNr, hGr, ha, hn, hs, hG⟩ := hRd
  have hrw := hR.lt
  refine calls_of Tryd.func27 rfl Tryd.ntmps27 rfl ?_
  have hKw := Kp.refl (fun b => b = r) w
  refine W.seq ?_
  refine W.region ?_
  have hsz5 := hKw.size
  refine SQ.new (v := (fun nb => .pointer (some ⟨nb, 0, none⟩))) rfl rfl rfl (r_alloc rfl Tryd.zeroValue25) ?_
  intro nb4 wv1 hge2 hlt3 hB4 hE4
  have hlt_hR_hB4 := Nat.lt_of_lt_of_le hR.lt hge2
  have hge_hG_hB4 := Nat.le_trans hG.size hge2
  replace hR := hR.ext hE4
  replace hK := hK.ext hE4
  replace hG := hG.ext hE4
  replace hKw := hKw.ext hE4
  replace hB4 : Blk wv1 nb4 _ _ := hB4
  refine SQ.nil ?_
  refine C.code ?_
  refine W.scopeS (α := Nat × Ex × Option Addr × Nat × Nat × Nat) 0 (fun g => [(0, .pointer (some ⟨r, 0, none⟩)), (1, .int .i64 n), (4, .pointer (some ⟨nb4, 0, none⟩)), (5, .pointer (some ⟨g.2.2.2.2.2, 0, none⟩))]) (fun g w1 => Blk w1 g.2.2.2.2.2 (g.2.1.cs g.2.2.1 g.2.2.2.1) 25 ∧ Blk w1 nb4 (exNone.cs none 0) 25 ∧ Tr w1 (fun b => w.heap.size ≤ b ∧ b < w1.heap.size ∧ b ≠ g.2.2.2.2.2 ∧ b ≠ nb4) g.2.1 g.2.2.1 g.2.2.2.1 ∧ Blk w1 r [.slice A ts.length c, .int .i64 (g.2.2.2.2.1 : Int)] 67 ∧ TkAt w1 N A ts ∧ Gl w1 ∧ Kp (fun b => b = r) w w1 ∧ w.heap.size ≤ g.2.2.2.2.2 ∧ nb4 < g.2.2.2.2.2 ∧ g.2.2.2.2.1 ≤ ts.length ∧ g.1 ≤ k ∧ rankP ts (k + 1) n a = loopP ts g.1 n g.2.1 g.2.2.2.2.1) (fun g => g.1) rfl ?_ ?_
  · rintro ⟨k', x, Ax, cx, a', nb5⟩ wl ⟨hB5, hB4, hT, hR, hK, hG, hKw, hw5, h45, ha', hk', heq⟩
    dsimp only at hB5 hT hR hw5 h45 ha' hk' heq ⊢
    obtain ⟨k2, rfl⟩ : ∃ m, k' = m + 1 := by
      cases k' with
      | zero => exact absurd (heq.trans (by rw [loopP])) hne
      | succ m => exact ⟨m, rfl⟩
    refine W.seq ?_
    refine W.seq ?_
    refine W.region ?_
    have hsz6 := hKw.size
    have hlt7 := hB5.lt
    have hlt8 := hB4.lt
    have hlt9 := hR.lt
    refine SQ.call rfl rfl rfl (rc_func rfl rfl Tryd.call42) (pairs_spec _) ?_
    rintro _ wv10 ⟨bp, rfl, hP, hgp, hE11⟩
    refine ⟨_, rfl, ?_⟩
    replace hB5 := hB5.ext hE11
    replace hB4 := hB4.ext hE11
    replace hT := hT.ext hE11
    replace hR := hR.ext hE11
    replace hK := hK.ext hE11
    replace hG := hG.ext hE11
    replace hKw := hKw.ext hE11
    refine SQ.op rfl rfl rfl (r_lenSlice rfl rfl Tryd.underlying85) ?_
    refine SQ.op rfl rfl rfl (r_move rfl rfl) ?_
    refine SQ.nil ?_
    refine C.code ?_
    refine W.block ?_
    refine W.loop (α := Nat) (fun i => [(0, .pointer (some ⟨r, 0, none⟩)), (1, .int .i64 n), (4, .pointer (some ⟨nb4, 0, none⟩)), (5, .pointer (some ⟨nb5, 0, none⟩)), (24, .slice (some ⟨bp, 0, none⟩) 12 12), (25, .int .i64 12), (26, .int .i64 (i : Int))]) (fun i w1 => Blk w1 nb5 (x.cs Ax cx) 25 ∧ Blk w1 nb4 (exNone.cs none 0) 25 ∧ Tr w1 (fun b => w.heap.size ≤ b ∧ b < wl.heap.size ∧ b ≠ nb5 ∧ b ≠ nb4) x Ax cx ∧ Blk w1 r [.slice A ts.length c, .int .i64 (a' : Int)] 67 ∧ TkAt w1 N A ts ∧ Gl w1 ∧ Kp (fun b => b = r) w w1 ∧ Blk w1 bp (pairsF.flatMap Form.enc) 88 ∧ i ≤ 12 ∧ ∀ j f, j < i → pairsF[j]? = some f → (decide (f.rank = n) && takesB ts a' f.kind f.text) = false) (fun i => 12 - i) 0 ⟨rfl, rfl, rfl, rfl, rfl, rfl, rfl, trivial⟩ ⟨hB5, hB4, hT, hR, hK, hG, hKw, hP, by omega, fun j f h => absurd h (by omega)⟩ ?_
    rintro i wi ⟨hB5, hB4, hT, hR, hK, hG, hKw, hP, hi12, hno⟩
    have hl12 : pairsF.length = 12 := rfl
    by_cases hi : i < pairsF.length
    · obtain ⟨f, hf⟩ : ∃ f, pairsF[i]? = some f := ⟨_, List.getElem?_eq_getElem hi⟩
      have hC := hP.sub (z := 4) (fun _ => rfl) hf
      have hfr := pairs_rank (List.mem_of_getElem? hf)
      refine W.seq ?_
      refine W.region ?_
      refine SQ.opD true rfl rfl rfl (r_lss rfl rfl rfl) (by simp; omega) ?_
      refine SQ.nil ?_
      refine C.code ?_
      refine W.seq ?_
      refine W.cond_t rfl ?_
      refine W.skip ?_
      refine C.code ?_
      refine W.seq ?_
      refine W.block ?_
      refine W.seq ?_
      refine W.region ?_
      refine SQ.op rfl rfl rfl (r_indexAddr rfl rfl rfl Tryd.underlying85 Tryd.sizeOf88 rfl (by omega)) ?_
      refine SQ.op rfl rfl rfl (r_loadAgg rfl rfl Tryd.isAgg88 Tryd.sizeOf88 rfl (by first | exact hC | exact hP.cells | exact hR.cells | exact hB4.cells | exact hB5.cells | assumption)) ?_
      have hsz16 := hKw.size
      refine SQ.new (v := (fun nb => .pointer (some ⟨nb, 0, none⟩))) rfl rfl rfl (r_alloc rfl Tryd.zeroValue88) ?_
      intro nb7 wv12 hge13 hlt14 hB7 hE15
      have hlt_hB5_hB7 := Nat.lt_of_lt_of_le hB5.lt hge13
      have hlt_hB4_hB7 := Nat.lt_of_lt_of_le hB4.lt hge13
      have hlt_hR_hB7 := Nat.lt_of_lt_of_le hR.lt hge13
      have hge_hG_hB7 := Nat.le_trans hG.size hge13
      have hlt_hP_hB7 := Nat.lt_of_lt_of_le hP.lt hge13
      replace hB5 := hB5.ext hE15
      replace hB4 := hB4.ext hE15
      replace hT := hT.ext hE15
      replace hR := hR.ext hE15
      replace hK := hK.ext hE15
      replace hG := hG.ext hE15
      replace hP := hP.ext hE15
      replace hC := hC.ext hE15
      replace hKw := hKw.ext hE15
      replace hB7 : Blk wv12 nb7 _ _ := hB7
      refine SQ.storeA rfl rfl rfl rfl rfl Tryd.sizeOf88 rfl hB7 ⟨rfl, rfl⟩ ?_
      intro wv17 hS19 hK18
      have hsz20 := hK18.size
      replace hB5 := hB5.kp hK18 (by omega)
      replace hB4 := hB4.kp hK18 (by omega)
      replace hT := hT.kp hK18 (by intro b hb hs; omega)
      replace hR := hR.kp hK18 (by omega)
      replace hK := hK.kp hK18 (by intro b hb hs; omega)
      replace hG := hG.kp hK18 (by intro b hb hs; omega)
      replace hP := hP.kp hK18 (by omega)
      replace hC := hC.kp hK18 (by omega)
      replace hB7 : Blk wv17 _ _ _ := hS19
      clear hS19
      replace hKw := hKw.new hK18 (by intro b hb; subst hb; omega)
      refine SQ.nil ?_
      refine C.code ?_
      refine W.seq ?_
      refine W.seq ?_
      refine W.region ?_
      refine SQ.op rfl rfl rfl (r_fieldAddr rfl rfl Tryd.underlying88 rfl Tryd.sizeOf3 rfl) ?_
      refine SQ.op rfl rfl rfl (r_load rfl rfl Tryd.isAgg3 (by first | exact hB7.cell rfl | exact hC.cell rfl | exact hP.cell rfl | exact hR.cell rfl | exact hB4.cell rfl | exact hB5.cell rfl | assumption)) ?_
      refine SQ.op rfl rfl rfl (r_move rfl rfl) ?_
      refine SQ.op rfl rfl rfl (r_neqInt rfl rfl rfl) ?_
      refine SQ.opB rfl rfl rfl (r_move rfl rfl) ?_ ?_
      · intro hb9_4
        try simp only [decide_eq_true_eq, decide_eq_false_iff_not, Bool.not_eq_true', Bool.not_eq_false', Bool.not_true, Bool.not_false, Bool.not_eq_true, Bool.not_eq_false] at hb9_4
        refine SQ.skip rfl rfl rfl rfl rfl rfl rfl ?_
        refine SQ.skip rfl rfl rfl rfl rfl rfl rfl ?_
        refine SQ.skip rfl rfl rfl rfl rfl rfl rfl ?_
        refine SQ.skip rfl rfl rfl rfl rfl rfl rfl ?_
        refine SQ.skip rfl rfl rfl rfl rfl rfl rfl ?_
        refine SQ.skip rfl rfl rfl rfl rfl rfl rfl ?_
        refine SQ.skip rfl rfl rfl rfl rfl rfl rfl ?_
        refine SQ.op rfl rfl rfl (r_pick_t rfl rfl rfl) ?_
        refine SQ.nil ?_
        refine C.code ?_
        refine W.cond_t rfl ?_
        refine W.exit rfl ?_
        refine C.code ?_
        refine W.region ?_
        refine SQ.op rfl rfl rfl (r_add rfl rfl rfl (w64 (by omega))) ?_
        refine SQ.op rfl rfl rfl (r_move rfl rfl) ?_
        refine SQ.nil ?_
        refine C.round (i + 1) ⟨rfl, rfl, rfl, rfl, rfl, rfl, rfl, trivial⟩ ⟨hB5, hB4, hT, hR, hK, hG, hKw, hP, by omega, fun j g hj hg => ?_⟩ (by omega)
        rcases Nat.lt_or_ge j i with e | e
        · exact hno j g e hg
        · obtain rfl : j = i := by omega
          rw [hf] at hg; cases hg; simp [*]
      · intro hb9_4
        try simp only [decide_eq_true_eq, decide_eq_false_iff_not, Bool.not_eq_true', Bool.not_eq_false', Bool.not_true, Bool.not_false, Bool.not_eq_true, Bool.not_eq_false] at hb9_4
        refine SQ.guarded rfl rfl rfl rfl rfl ?_
        refine SQ.op rfl rfl rfl (r_move rfl rfl) ?_
        refine SQ.guarded rfl rfl rfl rfl rfl ?_
        refine SQ.op rfl rfl rfl (r_fieldAddr rfl rfl Tryd.underlying88 rfl Tryd.sizeOf5 rfl) ?_
        refine SQ.guarded rfl rfl rfl rfl rfl ?_
        refine SQ.op rfl rfl rfl (r_load rfl rfl Tryd.isAgg5 (by first | exact hB7.cell rfl | exact hC.cell rfl | exact hP.cell rfl | exact hR.cell rfl | exact hB4.cell rfl | exact hB5.cell rfl | assumption)) ?_
        refine SQ.guarded rfl rfl rfl rfl rfl ?_
        refine SQ.op rfl rfl rfl (r_fieldAddr rfl rfl Tryd.underlying88 rfl Tryd.sizeOf9 rfl) ?_
        refine SQ.guarded rfl rfl rfl rfl rfl ?_
        refine SQ.op rfl rfl rfl (r_load rfl rfl Tryd.isAgg9 (by first | exact hB7.cell rfl | exact hC.cell rfl | exact hP.cell rfl | exact hR.cell rfl | exact hB4.cell rfl | exact hB5.cell rfl | assumption)) ?_
        refine SQ.guarded rfl rfl rfl rfl rfl ?_
        have hsz21 := hKw.size
        refine SQ.call rfl rfl rfl (rc_func rfl rfl Tryd.call40) (takes_spec ts r N A c _ _ _ _ hR hK hNr (by first | assumption | omega) hn) ?_
        rintro _ wv22 ⟨rfl, hR2, hE23⟩
        refine ⟨_, rfl, ?_⟩
        replace hB5 := hB5.kp hE23 (by omega)
        replace hB4 := hB4.kp hE23 (by omega)
        replace hT := hT.kp hE23 (by intro b hb hs; omega)
        replace hK := hK.kp hE23 (by intro b hb hs; omega)
        replace hG := hG.kp hE23 (by intro b hb hs; omega)
        replace hP := hP.kp hE23 (by omega)
        replace hC := hC.kp hE23 (by omega)
        replace hB7 := hB7.kp hE23 (by omega)
        replace hKw := hKw.both hE23
        replace hR := hR2
        clear hR2
        refine both (G := fun v => SQ _ _ _ _ _ _ ((_, v) :: _) _) ?_ ?_
        · intro hb9_10
          first | rw [if_pos hb9_10] at hR | rw [if_neg (by simp [hb9_10])] at hR
          try have hlt' := takesB_lt hb9_10
          refine SQ.guarded rfl rfl rfl rfl rfl ?_
          refine SQ.op rfl rfl rfl (r_not rfl rfl) ?_
          refine SQ.op rfl rfl rfl (r_pick_f rfl rfl rfl) ?_
          refine SQ.nil ?_
          refine C.code ?_
          refine W.cond_f rfl ?_
          refine W.skip ?_
          refine C.code ?_
          refine W.seq ?_
          have hff : firstF ts a' n = some f := find_at hno hf (by simp [*])
          refine W.held (fun w' => Kp (fun b => b = r ∨ b = nb5) wv22 w') mixed ?_
          intro wv24 hE25 _
          have hS26 : Kp (fun b => b = r ∨ b = nb5) wv22 wv24 := hE25.to _
          have hRn := hR.ext hE25
          have hB5n := hB5.ext hE25
          refine AH.take 0 rfl (by kernel_rfl) (by kernel_rfl) (by kernel_rfl) PanOk.fn rfl rfl rfl hS26 (fun w' hS => r_fieldAddr rfl rfl Tryd.underlying88 rfl Tryd.sizeOf22 rfl) ?_
          refine AH.take 1 rfl (by kernel_rfl) (by kernel_rfl) (by kernel_rfl) PanOk.fn rfl rfl rfl hS26 (fun w' hS => r_load rfl rfl Tryd.isAgg22 (by first | exact hS.cell (hB7.cell rfl) (by first | omega | (dsimp only; omega)) | exact hS.cell (hC.cell rfl) (by first | omega | (dsimp only; omega)) | exact hS.cell (hP.cell rfl) (by first | omega | (dsimp only; omega)) | exact hS.cell (hR.cell rfl) (by first | omega | (dsimp only; omega)) | exact hS.cell (hB4.cell rfl) (by first | omega | (dsimp only; omega)) | exact hS.cell (hB5.cell rfl) (by first | omega | (dsimp only; omega)) | assumption)) ?_
          refine AH.take 3 rfl (by kernel_rfl) (by kernel_rfl) (by kernel_rfl) PanOk.fn rfl rfl rfl hS26 (fun w' hS => r_move rfl rfl) ?_
          refine AH.take 4 rfl (by kernel_rfl) (by kernel_rfl) (by kernel_rfl) PanOk.fn rfl rfl rfl hS26 (fun w' hS => r_loadAgg rfl rfl Tryd.isAgg88 Tryd.sizeOf88 rfl (by first | exact (fun j v hv => hS.cell (hB7.cells j v hv) (by first | omega | (dsimp only; omega))) | exact (fun j v hv => hS.cell (hC j v hv) (by first | omega | (dsimp only; omega))) | exact (fun j v hv => hS.cell (hP.cells j v hv) (by first | omega | (dsimp only; omega))) | exact (fun j v hv => hS.cell (hR.cells j v hv) (by first | omega | (dsimp only; omega))) | exact (fun j v hv => hS.cell (hB4.cells j v hv) (by first | omega | (dsimp only; omega))) | exact (fun j v hv => hS.cell (hB5.cells j v hv) (by first | omega | (dsimp only; omega))) | assumption)) ?_
          refine AH.two 2 5 (by kernel_rfl) rfl rfl rfl rfl ?_ ?_
          · refine OW.op rfl rfl (r_loadAgg rfl rfl Tryd.isAgg25 Tryd.sizeOf25 rfl (by first | exact hB5n.cells | exact hRn.cells | assumption)) ?_
            refine OW.next hS26 ?_
            refine AH.one 5 rfl (by kernel_rfl) rfl ?_
            refine OW.call rfl rfl (rc_func rfl rfl Tryd.call43) (asks_spec f _ hfr.1) ?_
            rintro _ wv30 ⟨rfl, hE31⟩
            refine .inl ⟨_, rfl, ?_⟩
            replace hRn := hRn.ext hE31
            replace hB5n := hB5n.ext hE31
            have hS32 := hS26.ext hE31
            have hA33 := Ext.trans hE25 hE31
            refine OW.next hS32 ?_
            refine AH.take 6 rfl (by kernel_rfl) (by kernel_rfl) (by kernel_rfl) PanOk.fn rfl rfl rfl hS32 (fun w' hS => r_indexArr1 rfl rfl rfl Tryd.underlying89 Tryd.sizeOf3 Tryd.isAgg3 rfl (by omega) rfl (j := 1)) ?_
            refine AH.one 7 rfl (by kernel_rfl) rfl ?_
            rcases hres9 : rankP ts k2 (asksR f).2 (a' + 1) with ⟨x9, a9⟩ | ⟨e9, a9⟩ | _
            · have hlt37 := hB5.lt
              have hlt38 := hB4.lt
              have hlt39 := hR.lt
              have hlt40 := hP.lt
              have hlt41 := hB7.lt
              have hlt42 := hRn.lt
              have hlt43 := hB5n.lt
              have hsz44 := hKw.size
              have hsz45 := hS32.size
              refine OW.call rfl rfl (rc_func rfl rfl Tryd.call27) (ihr k2 (by omega) ts A c r N (a' + 1) (asksR f).2 _ ⟨hR.ext hA33, hK.ext hA33, hNr, hGr, by first | assumption | omega, hn, hs, hG.ext hA33⟩ hfr.2.1 hfr.2.2 (by intro h; exact hne (by rw [heq, loopP_some hff, h]; rfl))) ?_
              intro _ wv34 hpost
              rw [hres9] at hpost
              obtain ⟨A9, c9, rfl, hT9, hR9, ha9, hE35⟩ := hpost
              refine .inl ⟨_, rfl, ?_⟩
              replace hB5n := hB5n.kp hE35 (by omega)
              replace hRn := hR9
              have hS36 := hS32.both (hE35.mono (fun b _ hb => .inl hb))
              refine OW.next hS36 ?_
              refine AH.one 8 rfl (by kernel_rfl) rfl ?_
              have hsz51 := hS36.size
              have hlt0_hB5_hB51 := hB5.lt
              have hlt0_hB4_hB51 := hB4.lt
              have hlt0_hR_hB51 := hR.lt
              have hlt0_hP_hB51 := hP.lt
              have hlt0_hB7_hB51 := hB7.lt
              have hsz52 := hKw.size
              refine OW.new (v := (fun nb => .slice (some ⟨nb, 0, none⟩) 2 2)) rfl rfl (r_buildSlice rfl rfl Tryd.underlying23 Tryd.sizeOf25 Tryd.zeroValue25 rfl rfl rfl rfl rfl) ?_
              intro nb51 wv46 hge49 hlt50 hB51 hE47
              have hlt_hRn_hB51 := Nat.lt_of_lt_of_le hRn.lt hge49
              have hlt_hB5n_hB51 := Nat.lt_of_lt_of_le hB5n.lt hge49
              replace hRn := hRn.ext hE47
              replace hB5n := hB5n.ext hE47
              replace hT9 := hT9.ext hE47
              replace hB51 : Blk wv46 nb51 _ _ := hB51
              have hS48 := hS36.ext hE47
              refine OW.next hS48 ?_
              refine AH.take 9 rfl (by kernel_rfl) (by kernel_rfl) (by kernel_rfl) PanOk.fn rfl rfl rfl hS48 (fun w' hS => r_build (pl := [(0, 1), (1, 1), (2, 1), (3, 1)]) rfl rfl Tryd.underlying25 Tryd.zeroValue25 (fun _ => by kernel_rfl) rfl rfl) ?_
              refine AH.one 10 rfl (by kernel_rfl) rfl ?_
              refine OW.storeA rfl rfl rfl rfl Tryd.sizeOf25 rfl hB5n ⟨rfl, rfl⟩ ?_
              intro wv53 hn56 hE54
              replace hRn := hRn.kp hE54 (by omega)
              replace hT9 := hT9.kp hE54 (by intro b hb hs; omega)
              replace hB51 := hB51.kp hE54 (by omega)
              replace hB5n : Blk wv53 _ _ _ := hn56
              clear hn56
              have hS55 : Kp (fun b => b = r ∨ b = nb5) wv22 wv53 := hS48.both (hE54.mono (by intro b _ hb; subst hb; simp))
              refine OW.next hS55 ?_
              refine AH.done (by kernel_rfl) ?_
              replace hB4 := hB4.kp hS55 (by first | omega | (dsimp only; omega))
              replace hT := hT.kp hS55 (by intro b hb hs; omega)
              replace hK := hK.kp hS55 (by intro b hb hs; omega)
              replace hG := hG.kp hS55 (by intro b hb hs; omega)
              replace hP := hP.kp hS55 (by first | omega | (dsimp only; omega))
              replace hC := hC.kp hS55 (by first | omega | (dsimp only; omega))
              replace hB7 := hB7.kp hS55 (by first | omega | (dsimp only; omega))
              replace hKw := hKw.trans hS55 (fun _ _ h => h) (fun b hb h => by omega)
              replace hR := hRn
              clear hRn
              replace hB5 := hB5n
              clear hB5n
              refine C.code ?_
              refine W.seq ?_
              refine W.seq ?_
              refine W.region ?_
              refine SQ.op rfl rfl rfl (r_move rfl rfl) ?_
              refine SQ.op rfl rfl rfl (r_eqlInt rfl rfl rfl) ?_
              refine SQ.opB rfl rfl rfl (r_move rfl rfl) ?_ ?_
              · intro hb11_2
                try simp only [decide_eq_true_eq, decide_eq_false_iff_not, Bool.not_eq_true', Bool.not_eq_false', Bool.not_true, Bool.not_false, Bool.not_eq_true, Bool.not_eq_false] at hb11_2
                refine SQ.skip rfl rfl rfl rfl rfl rfl rfl ?_
                refine SQ.skip rfl rfl rfl rfl rfl rfl rfl ?_
                refine SQ.op rfl rfl rfl (r_pick_t rfl rfl rfl) ?_
                refine SQ.nil ?_
                refine C.code ?_
                refine W.cond_t rfl ?_
                refine W.exit rfl ?_
                refine C.code ?_
                refine W.seq ?_
                refine W.region ?_
                refine SQ.op rfl rfl rfl (r_loadAgg rfl rfl Tryd.isAgg25 Tryd.sizeOf25 rfl (by first | exact hB51.cells | exact hB7.cells | exact hC | exact hP.cells | exact hR.cells | exact hB4.cells | exact hB5.cells | assumption)) ?_
                refine SQ.storeA rfl rfl rfl rfl rfl Tryd.sizeOf25 rfl hB4 ⟨rfl, rfl⟩ ?_
                intro wv57 hS59 hK58
                have hsz60 := hK58.size
                replace hB5 := hB5.kp hK58 (by omega)
                replace hT := hT.kp hK58 (by intro b hb hs; omega)
                replace hR := hR.kp hK58 (by omega)
                replace hK := hK.kp hK58 (by intro b hb hs; omega)
                replace hG := hG.kp hK58 (by intro b hb hs; omega)
                replace hP := hP.kp hK58 (by omega)
                replace hC := hC.kp hK58 (by omega)
                replace hB7 := hB7.kp hK58 (by omega)
                replace hT9 := hT9.kp hK58 (by intro b hb hs; omega)
                replace hB51 := hB51.kp hK58 (by omega)
                replace hB4 : Blk wv57 _ _ _ := hS59
                clear hS59
                replace hKw := hKw.new hK58 (by intro b hb; subst hb; omega)
                refine SQ.nil ?_
                refine C.code ?_
                refine W.ret ?_
                refine C.retL (vs := [_]) Tryd.results27 ⟨⟨_, rfl, ld_agg Tryd.isAgg25 Tryd.sizeOf25 hB4 rfl⟩, trivial⟩ ?_
                have hsz9 := hKw.size
                have hl4 := hB4.lt
                have ht : rankP ts (k + 1) n a = .ok (.mk f.op 0 ⟨#[]⟩ [x, x9]) a9 := by have ht := (heq.trans (loopP_some (k := k2) (x := x) hff)); rw [hres9] at ht; exact ht.trans (if_pos (by first | exact .inl (by assumption) | exact .inr (by assumption)))
                rw [ht]
                have hl9 := hB51.lt
                exact ⟨_, _, rfl, Tr.mk2 hB51 (by omega) (hT.mono (by intro b hb; omega)) (hT9.mono (by intro b hb; omega)), hR, by omega, hKw⟩
              · intro hb11_2
                try simp only [decide_eq_true_eq, decide_eq_false_iff_not, Bool.not_eq_true', Bool.not_eq_false', Bool.not_true, Bool.not_false, Bool.not_eq_true, Bool.not_eq_false] at hb11_2
                refine SQ.guarded rfl rfl rfl rfl rfl ?_
                refine SQ.op rfl rfl rfl (r_move rfl rfl) ?_
                refine SQ.guarded rfl rfl rfl rfl rfl ?_
                refine SQ.op rfl rfl rfl (r_eqlInt rfl rfl rfl) ?_
                refine SQ.op rfl rfl rfl (r_pick_f rfl rfl rfl) ?_
                refine SQ.nil ?_
                refine C.code ?_
                refine W.cond rfl ?_ ?_
                · intro hc61
                  try simp only [decide_eq_true_eq, decide_eq_false_iff_not, Bool.not_eq_true', Bool.not_eq_false', Bool.not_true, Bool.not_false, Bool.not_eq_true, Bool.not_eq_false] at hc61
                  refine W.exit rfl ?_
                  refine C.code ?_
                  refine W.seq ?_
                  refine W.region ?_
                  refine SQ.op rfl rfl rfl (r_loadAgg rfl rfl Tryd.isAgg25 Tryd.sizeOf25 rfl (by first | exact hB51.cells | exact hB7.cells | exact hC | exact hP.cells | exact hR.cells | exact hB4.cells | exact hB5.cells | assumption)) ?_
                  refine SQ.storeA rfl rfl rfl rfl rfl Tryd.sizeOf25 rfl hB4 ⟨rfl, rfl⟩ ?_
                  intro wv62 hS64 hK63
                  have hsz65 := hK63.size
                  replace hB5 := hB5.kp hK63 (by omega)
                  replace hT := hT.kp hK63 (by intro b hb hs; omega)
                  replace hR := hR.kp hK63 (by omega)
                  replace hK := hK.kp hK63 (by intro b hb hs; omega)
                  replace hG := hG.kp hK63 (by intro b hb hs; omega)
                  replace hP := hP.kp hK63 (by omega)
                  replace hC := hC.kp hK63 (by omega)
                  replace hB7 := hB7.kp hK63 (by omega)
                  replace hT9 := hT9.kp hK63 (by intro b hb hs; omega)
                  replace hB51 := hB51.kp hK63 (by omega)
                  replace hB4 : Blk wv62 _ _ _ := hS64
                  clear hS64
                  replace hKw := hKw.new hK63 (by intro b hb; subst hb; omega)
                  refine SQ.nil ?_
                  refine C.code ?_
                  refine W.ret ?_
                  refine C.retL (vs := [_]) Tryd.results27 ⟨⟨_, rfl, ld_agg Tryd.isAgg25 Tryd.sizeOf25 hB4 rfl⟩, trivial⟩ ?_
                  have hsz9 := hKw.size
                  have hl4 := hB4.lt
                  have ht : rankP ts (k + 1) n a = .ok (.mk f.op 0 ⟨#[]⟩ [x, x9]) a9 := by have ht := (heq.trans (loopP_some (k := k2) (x := x) hff)); rw [hres9] at ht; exact ht.trans (if_pos (by first | exact .inl (by assumption) | exact .inr (by assumption)))
                  rw [ht]
                  have hl9 := hB51.lt
                  exact ⟨_, _, rfl, Tr.mk2 hB51 (by omega) (hT.mono (by intro b hb; omega)) (hT9.mono (by intro b hb; omega)), hR, by omega, hKw⟩
                · intro hc61
                  try simp only [decide_eq_true_eq, decide_eq_false_iff_not, Bool.not_eq_true', Bool.not_eq_false', Bool.not_true, Bool.not_false, Bool.not_eq_true, Bool.not_eq_false] at hc61
                  refine W.skip ?_
                  refine C.code ?_
                  refine W.goto rfl ?_
                  have hsz9 := hKw.size
                  have hl9 := hB51.lt
                  refine C.round (k2, (.mk f.op 0 ⟨#[]⟩ [x, x9]), some ⟨nb51, 0, none⟩, 2, a9, nb5) ⟨rfl, rfl, rfl, rfl, trivial⟩ ⟨hB5, hB4, Tr.mk2 hB51 (by dsimp only; omega) (hT.mono (by intro b hb; dsimp only at hb ⊢; omega)) (hT9.mono (by intro b hb; dsimp only at hb ⊢; omega)), hR, hK, hG, hKw, by dsimp only; omega, by dsimp only; omega, by dsimp only; omega, by dsimp only; omega, ?_⟩ (by dsimp only; omega)
                  have ht := (heq.trans (loopP_some (k := k2) (x := x) hff))
                  rw [hres9] at ht
                  exact ht.trans (if_neg (by omega))
            · refine OW.call rfl rfl (rc_func rfl rfl Tryd.call27) (ihr k2 (by omega) ts A c r N (a' + 1) (asksR f).2 _ ⟨hR.ext hA33, hK.ext hA33, hNr, hGr, by first | assumption | omega, hn, hs, hG.ext hA33⟩ hfr.2.1 hfr.2.2 (by intro h; exact hne (by rw [heq, loopP_some hff, h]; rfl))) ?_
              intro _ wv34 hpost
              rw [hres9] at hpost
              obtain ⟨rfl, hR9, ha9, hE35⟩ := hpost
              refine .inr ⟨_, rfl, ?_⟩
              refine C.pan ?_
              have ht := (heq.trans (loopP_some (k := k2) (x := x) hff))
              rw [hres9] at ht
              replace ht : rankP ts (k + 1) n a = .bad e9 a9 := ht
              rw [ht]
              exact ⟨rfl, hR9, ha9, hKw.both (hA33.kp hE35)⟩
            · exact absurd (by have ht := (heq.trans (loopP_some (k := k2) (x := x) hff)); rw [hres9] at ht; exact ht) hne
          · refine OW.call rfl rfl (rc_func rfl rfl Tryd.call43) (asks_spec f _ hfr.1) ?_
            rintro _ wv66 ⟨rfl, hE67⟩
            refine .inl ⟨_, rfl, ?_⟩
            replace hRn := hRn.ext hE67
            replace hB5n := hB5n.ext hE67
            have hS68 := hS26.ext hE67
            have hA69 := Ext.trans hE25 hE67
            refine OW.next hS68 ?_
            refine AH.take 6 rfl (by kernel_rfl) (by kernel_rfl) (by kernel_rfl) PanOk.fn rfl rfl rfl hS68 (fun w' hS => r_indexArr1 rfl rfl rfl Tryd.underlying89 Tryd.sizeOf3 Tryd.isAgg3 rfl (by omega) rfl (j := 1)) ?_
            refine AH.two 2 7 (by kernel_rfl) rfl rfl rfl rfl ?_ ?_
            · refine OW.op rfl rfl (r_loadAgg rfl rfl Tryd.isAgg25 Tryd.sizeOf25 rfl (by first | exact hB5n.cells | exact hRn.cells | assumption)) ?_
              refine OW.next hS68 ?_
              refine AH.one 7 rfl (by kernel_rfl) rfl ?_
              rcases hres9 : rankP ts k2 (asksR f).2 (a' + 1) with ⟨x9, a9⟩ | ⟨e9, a9⟩ | _
              · have hlt76 := hB5.lt
                have hlt77 := hB4.lt
                have hlt78 := hR.lt
                have hlt79 := hP.lt
                have hlt80 := hB7.lt
                have hlt81 := hRn.lt
                have hlt82 := hB5n.lt
                have hsz83 := hKw.size
                have hsz84 := hS68.size
                refine OW.call rfl rfl (rc_func rfl rfl Tryd.call27) (ihr k2 (by omega) ts A c r N (a' + 1) (asksR f).2 _ ⟨hR.ext hA69, hK.ext hA69, hNr, hGr, by first | assumption | omega, hn, hs, hG.ext hA69⟩ hfr.2.1 hfr.2.2 (by intro h; exact hne (by rw [heq, loopP_some hff, h]; rfl))) ?_
                intro _ wv73 hpost
                rw [hres9] at hpost
                obtain ⟨A9, c9, rfl, hT9, hR9, ha9, hE74⟩ := hpost
                refine .inl ⟨_, rfl, ?_⟩
                replace hB5n := hB5n.kp hE74 (by omega)
                replace hRn := hR9
                have hS75 := hS68.both (hE74.mono (fun b _ hb => .inl hb))
                refine OW.next hS75 ?_
                refine AH.one 8 rfl (by kernel_rfl) rfl ?_
                have hsz90 := hS75.size
                have hlt0_hB5_hB51 := hB5.lt
                have hlt0_hB4_hB51 := hB4.lt
                have hlt0_hR_hB51 := hR.lt
                have hlt0_hP_hB51 := hP.lt
                have hlt0_hB7_hB51 := hB7.lt
                have hsz91 := hKw.size
                refine OW.new (v := (fun nb => .slice (some ⟨nb, 0, none⟩) 2 2)) rfl rfl (r_buildSlice rfl rfl Tryd.underlying23 Tryd.sizeOf25 Tryd.zeroValue25 rfl rfl rfl rfl rfl) ?_
                intro nb51 wv85 hge88 hlt89 hB51 hE86
                have hlt_hRn_hB51 := Nat.lt_of_lt_of_le hRn.lt hge88
                have hlt_hB5n_hB51 := Nat.lt_of_lt_of_le hB5n.lt hge88
                replace hRn := hRn.ext hE86
                replace hB5n := hB5n.ext hE86
                replace hT9 := hT9.ext hE86
                replace hB51 : Blk wv85 nb51 _ _ := hB51
                have hS87 := hS75.ext hE86
                refine OW.next hS87 ?_
                refine AH.take 9 rfl (by kernel_rfl) (by kernel_rfl) (by kernel_rfl) PanOk.fn rfl rfl rfl hS87 (fun w' hS => r_build (pl := [(0, 1), (1, 1), (2, 1), (3, 1)]) rfl rfl Tryd.underlying25 Tryd.zeroValue25 (fun _ => by kernel_rfl) rfl rfl) ?_
                refine AH.one 10 rfl (by kernel_rfl) rfl ?_
                refine OW.storeA rfl rfl rfl rfl Tryd.sizeOf25 rfl hB5n ⟨rfl, rfl⟩ ?_
                intro wv92 hn95 hE93
                replace hRn := hRn.kp hE93 (by omega)
                replace hT9 := hT9.kp hE93 (by intro b hb hs; omega)
                replace hB51 := hB51.kp hE93 (by omega)
                replace hB5n : Blk wv92 _ _ _ := hn95
                clear hn95
                have hS94 : Kp (fun b => b = r ∨ b = nb5) wv22 wv92 := hS87.both (hE93.mono (by intro b _ hb; subst hb; simp))
                refine OW.next hS94 ?_
                refine AH.done (by kernel_rfl) ?_
                replace hB4 := hB4.kp hS94 (by first | omega | (dsimp only; omega))
                replace hT := hT.kp hS94 (by intro b hb hs; omega)
                replace hK := hK.kp hS94 (by intro b hb hs; omega)
                replace hG := hG.kp hS94 (by intro b hb hs; omega)
                replace hP := hP.kp hS94 (by first | omega | (dsimp only; omega))
                replace hC := hC.kp hS94 (by first | omega | (dsimp only; omega))
                replace hB7 := hB7.kp hS94 (by first | omega | (dsimp only; omega))
                replace hKw := hKw.trans hS94 (fun _ _ h => h) (fun b hb h => by omega)
                replace hR := hRn
                clear hRn
                replace hB5 := hB5n
                clear hB5n
                refine C.code ?_
                refine W.seq ?_
                refine W.seq ?_
                refine W.region ?_
                refine SQ.op rfl rfl rfl (r_move rfl rfl) ?_
                refine SQ.op rfl rfl rfl (r_eqlInt rfl rfl rfl) ?_
                refine SQ.opB rfl rfl rfl (r_move rfl rfl) ?_ ?_
                · intro hb11_2
                  try simp only [decide_eq_true_eq, decide_eq_false_iff_not, Bool.not_eq_true', Bool.not_eq_false', Bool.not_true, Bool.not_false, Bool.not_eq_true, Bool.not_eq_false] at hb11_2
                  refine SQ.skip rfl rfl rfl rfl rfl rfl rfl ?_
                  refine SQ.skip rfl rfl rfl rfl rfl rfl rfl ?_
                  refine SQ.op rfl rfl rfl (r_pick_t rfl rfl rfl) ?_
                  refine SQ.nil ?_
                  refine C.code ?_
                  refine W.cond_t rfl ?_
                  refine W.exit rfl ?_
                  refine C.code ?_
                  refine W.seq ?_
                  refine W.region ?_
                  refine SQ.op rfl rfl rfl (r_loadAgg rfl rfl Tryd.isAgg25 Tryd.sizeOf25 rfl (by first | exact hB51.cells | exact hB7.cells | exact hC | exact hP.cells | exact hR.cells | exact hB4.cells | exact hB5.cells | assumption)) ?_
                  refine SQ.storeA rfl rfl rfl rfl rfl Tryd.sizeOf25 rfl hB4 ⟨rfl, rfl⟩ ?_
                  intro wv96 hS98 hK97
                  have hsz99 := hK97.size
                  replace hB5 := hB5.kp hK97 (by omega)
                  replace hT := hT.kp hK97 (by intro b hb hs; omega)
                  replace hR := hR.kp hK97 (by omega)
                  replace hK := hK.kp hK97 (by intro b hb hs; omega)
                  replace hG := hG.kp hK97 (by intro b hb hs; omega)
                  replace hP := hP.kp hK97 (by omega)
                  replace hC := hC.kp hK97 (by omega)
                  replace hB7 := hB7.kp hK97 (by omega)
                  replace hT9 := hT9.kp hK97 (by intro b hb hs; omega)
                  replace hB51 := hB51.kp hK97 (by omega)
                  replace hB4 : Blk wv96 _ _ _ := hS98
                  clear hS98
                  replace hKw := hKw.new hK97 (by intro b hb; subst hb; omega)
                  refine SQ.nil ?_
                  refine C.code ?_
                  refine W.ret ?_
                  refine C.retL (vs := [_]) Tryd.results27 ⟨⟨_, rfl, ld_agg Tryd.isAgg25 Tryd.sizeOf25 hB4 rfl⟩, trivial⟩ ?_
                  have hsz9 := hKw.size
                  have hl4 := hB4.lt
                  have ht : rankP ts (k + 1) n a = .ok (.mk f.op 0 ⟨#[]⟩ [x, x9]) a9 := by have ht := (heq.trans (loopP_some (k := k2) (x := x) hff)); rw [hres9] at ht; exact ht.trans (if_pos (by first | exact .inl (by assumption) | exact .inr (by assumption)))
                  rw [ht]
                  have hl9 := hB51.lt
                  exact ⟨_, _, rfl, Tr.mk2 hB51 (by omega) (hT.mono (by intro b hb; omega)) (hT9.mono (by intro b hb; omega)), hR, by omega, hKw⟩
                · intro hb11_2
                  try simp only [decide_eq_true_eq, decide_eq_false_iff_not, Bool.not_eq_true', Bool.not_eq_false', Bool.not_true, Bool.not_false, Bool.not_eq_true, Bool.not_eq_false] at hb11_2
                  refine SQ.guarded rfl rfl rfl rfl rfl ?_
                  refine SQ.op rfl rfl rfl (r_move rfl rfl) ?_
                  refine SQ.guarded rfl rfl rfl rfl rfl ?_
                  refine SQ.op rfl rfl rfl (r_eqlInt rfl rfl rfl) ?_
                  refine SQ.op rfl rfl rfl (r_pick_f rfl rfl rfl) ?_
                  refine SQ.nil ?_
                  refine C.code ?_
                  refine W.cond rfl ?_ ?_
                  · intro hc100
                    try simp only [decide_eq_true_eq, decide_eq_false_iff_not, Bool.not_eq_true', Bool.not_eq_false', Bool.not_true, Bool.not_false, Bool.not_eq_true, Bool.not_eq_false] at hc100
                    refine W.exit rfl ?_
                    refine C.code ?_
                    refine W.seq ?_
                    refine W.region ?_
                    refine SQ.op rfl rfl rfl (r_loadAgg rfl rfl Tryd.isAgg25 Tryd.sizeOf25 rfl (by first | exact hB51.cells | exact hB7.cells | exact hC | exact hP.cells | exact hR.cells | exact hB4.cells | exact hB5.cells | assumption)) ?_
                    refine SQ.storeA rfl rfl rfl rfl rfl Tryd.sizeOf25 rfl hB4 ⟨rfl, rfl⟩ ?_
                    intro wv101 hS103 hK102
                    have hsz104 := hK102.size
                    replace hB5 := hB5.kp hK102 (by omega)
                    replace hT := hT.kp hK102 (by intro b hb hs; omega)
                    replace hR := hR.kp hK102 (by omega)
                    replace hK := hK.kp hK102 (by intro b hb hs; omega)
                    replace hG := hG.kp hK102 (by intro b hb hs; omega)
                    replace hP := hP.kp hK102 (by omega)
                    replace hC := hC.kp hK102 (by omega)
                    replace hB7 := hB7.kp hK102 (by omega)
                    replace hT9 := hT9.kp hK102 (by intro b hb hs; omega)
                    replace hB51 := hB51.kp hK102 (by omega)
                    replace hB4 : Blk wv101 _ _ _ := hS103
                    clear hS103
                    replace hKw := hKw.new hK102 (by intro b hb; subst hb; omega)
                    refine SQ.nil ?_
                    refine C.code ?_
                    refine W.ret ?_
                    refine C.retL (vs := [_]) Tryd.results27 ⟨⟨_, rfl, ld_agg Tryd.isAgg25 Tryd.sizeOf25 hB4 rfl⟩, trivial⟩ ?_
                    have hsz9 := hKw.size
                    have hl4 := hB4.lt
                    have ht : rankP ts (k + 1) n a = .ok (.mk f.op 0 ⟨#[]⟩ [x, x9]) a9 := by have ht := (heq.trans (loopP_some (k := k2) (x := x) hff)); rw [hres9] at ht; exact ht.trans (if_pos (by first | exact .inl (by assumption) | exact .inr (by assumption)))
                    rw [ht]
                    have hl9 := hB51.lt
                    exact ⟨_, _, rfl, Tr.mk2 hB51 (by omega) (hT.mono (by intro b hb; omega)) (hT9.mono (by intro b hb; omega)), hR, by omega, hKw⟩
                  · intro hc100
                    try simp only [decide_eq_true_eq, decide_eq_false_iff_not, Bool.not_eq_true', Bool.not_eq_false', Bool.not_true, Bool.not_false, Bool.not_eq_true, Bool.not_eq_false] at hc100
                    refine W.skip ?_
                    refine C.code ?_
                    refine W.goto rfl ?_
                    have hsz9 := hKw.size
                    have hl9 := hB51.lt
                    refine C.round (k2, (.mk f.op 0 ⟨#[]⟩ [x, x9]), some ⟨nb51, 0, none⟩, 2, a9, nb5) ⟨rfl, rfl, rfl, rfl, trivial⟩ ⟨hB5, hB4, Tr.mk2 hB51 (by dsimp only; omega) (hT.mono (by intro b hb; dsimp only at hb ⊢; omega)) (hT9.mono (by intro b hb; dsimp only at hb ⊢; omega)), hR, hK, hG, hKw, by dsimp only; omega, by dsimp only; omega, by dsimp only; omega, by dsimp only; omega, ?_⟩ (by dsimp only; omega)
                    have ht := (heq.trans (loopP_some (k := k2) (x := x) hff))
                    rw [hres9] at ht
                    exact ht.trans (if_neg (by omega))
              · refine OW.call rfl rfl (rc_func rfl rfl Tryd.call27) (ihr k2 (by omega) ts A c r N (a' + 1) (asksR f).2 _ ⟨hR.ext hA69, hK.ext hA69, hNr, hGr, by first | assumption | omega, hn, hs, hG.ext hA69⟩ hfr.2.1 hfr.2.2 (by intro h; exact hne (by rw [heq, loopP_some hff, h]; rfl))) ?_
                intro _ wv73 hpost
                rw [hres9] at hpost
                obtain ⟨rfl, hR9, ha9, hE74⟩ := hpost
                refine .inr ⟨_, rfl, ?_⟩
                refine C.pan ?_
                have ht := (heq.trans (loopP_some (k := k2) (x := x) hff))
                rw [hres9] at ht
                replace ht : rankP ts (k + 1) n a = .bad e9 a9 := ht
                rw [ht]
                exact ⟨rfl, hR9, ha9, hKw.both (hA69.kp hE74)⟩
              · exact absurd (by have ht := (heq.trans (loopP_some (k := k2) (x := x) hff)); rw [hres9] at ht; exact ht) hne
            · rcases hres9 : rankP ts k2 (asksR f).2 (a' + 1) with ⟨x9, a9⟩ | ⟨e9, a9⟩ | _
              · have hlt108 := hB5.lt
                have hlt109 := hB4.lt
                have hlt110 := hR.lt
                have hlt111 := hP.lt
                have hlt112 := hB7.lt
                have hlt113 := hRn.lt
                have hlt114 := hB5n.lt
                have hsz115 := hKw.size
                have hsz116 := hS68.size
                refine OW.call rfl rfl (rc_func rfl rfl Tryd.call27) (ihr k2 (by omega) ts A c r N (a' + 1) (asksR f).2 _ ⟨hR.ext hA69, hK.ext hA69, hNr, hGr, by first | assumption | omega, hn, hs, hG.ext hA69⟩ hfr.2.1 hfr.2.2 (by intro h; exact hne (by rw [heq, loopP_some hff, h]; rfl))) ?_
                intro _ wv105 hpost
                rw [hres9] at hpost
                obtain ⟨A9, c9, rfl, hT9, hR9, ha9, hE106⟩ := hpost
                refine .inl ⟨_, rfl, ?_⟩
                replace hB5n := hB5n.kp hE106 (by omega)
                replace hRn := hR9
                have hS107 := hS68.both (hE106.mono (fun b _ hb => .inl hb))
                refine OW.next hS107 ?_
                refine AH.one 2 rfl (by kernel_rfl) rfl ?_
                refine OW.op rfl rfl (r_loadAgg rfl rfl Tryd.isAgg25 Tryd.sizeOf25 rfl (by first | exact hB5n.cells | exact hRn.cells | assumption)) ?_
                refine OW.next hS107 ?_
                refine AH.one 8 rfl (by kernel_rfl) rfl ?_
                have hsz125 := hS107.size
                have hlt0_hB5_hB51 := hB5.lt
                have hlt0_hB4_hB51 := hB4.lt
                have hlt0_hR_hB51 := hR.lt
                have hlt0_hP_hB51 := hP.lt
                have hlt0_hB7_hB51 := hB7.lt
                have hsz126 := hKw.size
                refine OW.new (v := (fun nb => .slice (some ⟨nb, 0, none⟩) 2 2)) rfl rfl (r_buildSlice rfl rfl Tryd.underlying23 Tryd.sizeOf25 Tryd.zeroValue25 rfl rfl rfl rfl rfl) ?_
                intro nb51 wv120 hge123 hlt124 hB51 hE121
                have hlt_hRn_hB51 := Nat.lt_of_lt_of_le hRn.lt hge123
                have hlt_hB5n_hB51 := Nat.lt_of_lt_of_le hB5n.lt hge123
                replace hRn := hRn.ext hE121
                replace hB5n := hB5n.ext hE121
                replace hT9 := hT9.ext hE121
                replace hB51 : Blk wv120 nb51 _ _ := hB51
                have hS122 := hS107.ext hE121
                refine OW.next hS122 ?_
                refine AH.take 9 rfl (by kernel_rfl) (by kernel_rfl) (by kernel_rfl) PanOk.fn rfl rfl rfl hS122 (fun w' hS => r_build (pl := [(0, 1), (1, 1), (2, 1), (3, 1)]) rfl rfl Tryd.underlying25 Tryd.zeroValue25 (fun _ => by kernel_rfl) rfl rfl) ?_
                refine AH.one 10 rfl (by kernel_rfl) rfl ?_
                refine OW.storeA rfl rfl rfl rfl Tryd.sizeOf25 rfl hB5n ⟨rfl, rfl⟩ ?_
                intro wv127 hn130 hE128
                replace hRn := hRn.kp hE128 (by omega)
                replace hT9 := hT9.kp hE128 (by intro b hb hs; omega)
                replace hB51 := hB51.kp hE128 (by omega)
                replace hB5n : Blk wv127 _ _ _ := hn130
                clear hn130
                have hS129 : Kp (fun b => b = r ∨ b = nb5) wv22 wv127 := hS122.both (hE128.mono (by intro b _ hb; subst hb; simp))
                refine OW.next hS129 ?_
                refine AH.done (by kernel_rfl) ?_
                replace hB4 := hB4.kp hS129 (by first | omega | (dsimp only; omega))
                replace hT := hT.kp hS129 (by intro b hb hs; omega)
                replace hK := hK.kp hS129 (by intro b hb hs; omega)
                replace hG := hG.kp hS129 (by intro b hb hs; omega)
                replace hP := hP.kp hS129 (by first | omega | (dsimp only; omega))
                replace hC := hC.kp hS129 (by first | omega | (dsimp only; omega))
                replace hB7 := hB7.kp hS129 (by first | omega | (dsimp only; omega))
                replace hKw := hKw.trans hS129 (fun _ _ h => h) (fun b hb h => by omega)
                replace hR := hRn
                clear hRn
                replace hB5 := hB5n
                clear hB5n
                refine C.code ?_
                refine W.seq ?_
                refine W.seq ?_
                refine W.region ?_
                refine SQ.op rfl rfl rfl (r_move rfl rfl) ?_
                refine SQ.op rfl rfl rfl (r_eqlInt rfl rfl rfl) ?_
                refine SQ.opB rfl rfl rfl (r_move rfl rfl) ?_ ?_
                · intro hb11_2
                  try simp only [decide_eq_true_eq, decide_eq_false_iff_not, Bool.not_eq_true', Bool.not_eq_false', Bool.not_true, Bool.not_false, Bool.not_eq_true, Bool.not_eq_false] at hb11_2
                  refine SQ.skip rfl rfl rfl rfl rfl rfl rfl ?_
                  refine SQ.skip rfl rfl rfl rfl rfl rfl rfl ?_
                  refine SQ.op rfl rfl rfl (r_pick_t rfl rfl rfl) ?_
                  refine SQ.nil ?_
                  refine C.code ?_
                  refine W.cond_t rfl ?_
                  refine W.exit rfl ?_
                  refine C.code ?_
                  refine W.seq ?_
                  refine W.region ?_
                  refine SQ.op rfl rfl rfl (r_loadAgg rfl rfl Tryd.isAgg25 Tryd.sizeOf25 rfl (by first | exact hB51.cells | exact hB7.cells | exact hC | exact hP.cells | exact hR.cells | exact hB4.cells | exact hB5.cells | assumption)) ?_
                  refine SQ.storeA rfl rfl rfl rfl rfl Tryd.sizeOf25 rfl hB4 ⟨rfl, rfl⟩ ?_
                  intro wv131 hS133 hK132
                  have hsz134 := hK132.size
                  replace hB5 := hB5.kp hK132 (by omega)
                  replace hT := hT.kp hK132 (by intro b hb hs; omega)
                  replace hR := hR.kp hK132 (by omega)
                  replace hK := hK.kp hK132 (by intro b hb hs; omega)
                  replace hG := hG.kp hK132 (by intro b hb hs; omega)
                  replace hP := hP.kp hK132 (by omega)
                  replace hC := hC.kp hK132 (by omega)
                  replace hB7 := hB7.kp hK132 (by omega)
                  replace hT9 := hT9.kp hK132 (by intro b hb hs; omega)
                  replace hB51 := hB51.kp hK132 (by omega)
                  replace hB4 : Blk wv131 _ _ _ := hS133
                  clear hS133
                  replace hKw := hKw.new hK132 (by intro b hb; subst hb; omega)
                  refine SQ.nil ?_
                  refine C.code ?_
                  refine W.ret ?_
                  refine C.retL (vs := [_]) Tryd.results27 ⟨⟨_, rfl, ld_agg Tryd.isAgg25 Tryd.sizeOf25 hB4 rfl⟩, trivial⟩ ?_
                  have hsz9 := hKw.size
                  have hl4 := hB4.lt
                  have ht : rankP ts (k + 1) n a = .ok (.mk f.op 0 ⟨#[]⟩ [x, x9]) a9 := by have ht := (heq.trans (loopP_some (k := k2) (x := x) hff)); rw [hres9] at ht; exact ht.trans (if_pos (by first | exact .inl (by assumption) | exact .inr (by assumption)))
                  rw [ht]
                  have hl9 := hB51.lt
                  exact ⟨_, _, rfl, Tr.mk2 hB51 (by omega) (hT.mono (by intro b hb; omega)) (hT9.mono (by intro b hb; omega)), hR, by omega, hKw⟩
                · intro hb11_2
                  try simp only [decide_eq_true_eq, decide_eq_false_iff_not, Bool.not_eq_true', Bool.not_eq_false', Bool.not_true, Bool.not_false, Bool.not_eq_true, Bool.not_eq_false] at hb11_2
                  refine SQ.guarded rfl rfl rfl rfl rfl ?_
                  refine SQ.op rfl rfl rfl (r_move rfl rfl) ?_
                  refine SQ.guarded rfl rfl rfl rfl rfl ?_
                  refine SQ.op rfl rfl rfl (r_eqlInt rfl rfl rfl) ?_
                  refine SQ.op rfl rfl rfl (r_pick_f rfl rfl rfl) ?_
                  refine SQ.nil ?_
                  refine C.code ?_
                  refine W.cond rfl ?_ ?_
                  · intro hc135
                    try simp only [decide_eq_true_eq, decide_eq_false_iff_not, Bool.not_eq_true', Bool.not_eq_false', Bool.not_true, Bool.not_false, Bool.not_eq_true, Bool.not_eq_false] at hc135
                    refine W.exit rfl ?_
                    refine C.code ?_
                    refine W.seq ?_
                    refine W.region ?_
                    refine SQ.op rfl rfl rfl (r_loadAgg rfl rfl Tryd.isAgg25 Tryd.sizeOf25 rfl (by first | exact hB51.cells | exact hB7.cells | exact hC | exact hP.cells | exact hR.cells | exact hB4.cells | exact hB5.cells | assumption)) ?_
                    refine SQ.storeA rfl rfl rfl rfl rfl Tryd.sizeOf25 rfl hB4 ⟨rfl, rfl⟩ ?_
                    intro wv136 hS138 hK137
                    have hsz139 := hK137.size
                    replace hB5 := hB5.kp hK137 (by omega)
                    replace hT := hT.kp hK137 (by intro b hb hs; omega)
                    replace hR := hR.kp hK137 (by omega)
                    replace hK := hK.kp hK137 (by intro b hb hs; omega)
                    replace hG := hG.kp hK137 (by intro b hb hs; omega)
                    replace hP := hP.kp hK137 (by omega)
                    replace hC := hC.kp hK137 (by omega)
                    replace hB7 := hB7.kp hK137 (by omega)
                    replace hT9 := hT9.kp hK137 (by intro b hb hs; omega)
                    replace hB51 := hB51.kp hK137 (by omega)
                    replace hB4 : Blk wv136 _ _ _ := hS138
                    clear hS138
                    replace hKw := hKw.new hK137 (by intro b hb; subst hb; omega)
                    refine SQ.nil ?_
                    refine C.code ?_
                    refine W.ret ?_
                    refine C.retL (vs := [_]) Tryd.results27 ⟨⟨_, rfl, ld_agg Tryd.isAgg25 Tryd.sizeOf25 hB4 rfl⟩, trivial⟩ ?_
                    have hsz9 := hKw.size
                    have hl4 := hB4.lt
                    have ht : rankP ts (k + 1) n a = .ok (.mk f.op 0 ⟨#[]⟩ [x, x9]) a9 := by have ht := (heq.trans (loopP_some (k := k2) (x := x) hff)); rw [hres9] at ht; exact ht.trans (if_pos (by first | exact .inl (by assumption) | exact .inr (by assumption)))
                    rw [ht]
                    have hl9 := hB51.lt
                    exact ⟨_, _, rfl, Tr.mk2 hB51 (by omega) (hT.mono (by intro b hb; omega)) (hT9.mono (by intro b hb; omega)), hR, by omega, hKw⟩
                  · intro hc135
                    try simp only [decide_eq_true_eq, decide_eq_false_iff_not, Bool.not_eq_true', Bool.not_eq_false', Bool.not_true, Bool.not_false, Bool.not_eq_true, Bool.not_eq_false] at hc135
                    refine W.skip ?_
                    refine C.code ?_
                    refine W.goto rfl ?_
                    have hsz9 := hKw.size
                    have hl9 := hB51.lt
                    refine C.round (k2, (.mk f.op 0 ⟨#[]⟩ [x, x9]), some ⟨nb51, 0, none⟩, 2, a9, nb5) ⟨rfl, rfl, rfl, rfl, trivial⟩ ⟨hB5, hB4, Tr.mk2 hB51 (by dsimp only; omega) (hT.mono (by intro b hb; dsimp only at hb ⊢; omega)) (hT9.mono (by intro b hb; dsimp only at hb ⊢; omega)), hR, hK, hG, hKw, by dsimp only; omega, by dsimp only; omega, by dsimp only; omega, by dsimp only; omega, ?_⟩ (by dsimp only; omega)
                    have ht := (heq.trans (loopP_some (k := k2) (x := x) hff))
                    rw [hres9] at ht
                    exact ht.trans (if_neg (by omega))
              · refine OW.call rfl rfl (rc_func rfl rfl Tryd.call27) (ihr k2 (by omega) ts A c r N (a' + 1) (asksR f).2 _ ⟨hR.ext hA69, hK.ext hA69, hNr, hGr, by first | assumption | omega, hn, hs, hG.ext hA69⟩ hfr.2.1 hfr.2.2 (by intro h; exact hne (by rw [heq, loopP_some hff, h]; rfl))) ?_
                intro _ wv105 hpost
                rw [hres9] at hpost
                obtain ⟨rfl, hR9, ha9, hE106⟩ := hpost
                refine .inr ⟨_, rfl, ?_⟩
                refine C.pan ?_
                have ht := (heq.trans (loopP_some (k := k2) (x := x) hff))
                rw [hres9] at ht
                replace ht : rankP ts (k + 1) n a = .bad e9 a9 := ht
                rw [ht]
                exact ⟨rfl, hR9, ha9, hKw.both (hA69.kp hE106)⟩
              · exact absurd (by have ht := (heq.trans (loopP_some (k := k2) (x := x) hff)); rw [hres9] at ht; exact ht) hne
        · intro hb9_10
          first | rw [if_pos hb9_10] at hR | rw [if_neg (by simp [hb9_10])] at hR
          try have hlt' := takesB_lt hb9_10
          refine SQ.guarded rfl rfl rfl rfl rfl ?_
          refine SQ.op rfl rfl rfl (r_not rfl rfl) ?_
          refine SQ.op rfl rfl rfl (r_pick_f rfl rfl rfl) ?_
          refine SQ.nil ?_
          refine C.code ?_
          refine W.cond_t rfl ?_
          refine W.exit rfl ?_
          refine C.code ?_
          refine W.region ?_
          refine SQ.op rfl rfl rfl (r_add rfl rfl rfl (w64 (by omega))) ?_
          refine SQ.op rfl rfl rfl (r_move rfl rfl) ?_
          refine SQ.nil ?_
          refine C.round (i + 1) ⟨rfl, rfl, rfl, rfl, rfl, rfl, rfl, trivial⟩ ⟨hB5, hB4, hT, hR, hK, hG, hKw, hP, by omega, fun j g hj hg => ?_⟩ (by omega)
          rcases Nat.lt_or_ge j i with e | e
          · exact hno j g e hg
          · obtain rfl : j = i := by omega
            rw [hf] at hg; cases hg; simp [*]
    · have hff : firstF ts a' n = none := find_no (fun j g hj hg => hno j g (by omega) hg)
      refine W.seq ?_
      refine W.region ?_
      refine SQ.opD false rfl rfl rfl (r_lss rfl rfl rfl) (by simp; omega) ?_
      refine SQ.nil ?_
      refine C.code ?_
      refine W.seq ?_
      refine W.cond_f rfl ?_
      refine W.exit rfl ?_
      refine C.code ?_
      refine W.seq ?_
      refine W.region ?_
      refine SQ.op rfl rfl rfl (r_loadAgg rfl rfl Tryd.isAgg25 Tryd.sizeOf25 rfl (by first | exact hP.cells | exact hR.cells | exact hB4.cells | exact hB5.cells | assumption)) ?_
      refine SQ.storeA rfl rfl rfl rfl rfl Tryd.sizeOf25 rfl hB4 ⟨rfl, rfl⟩ ?_
      intro wv140 hS142 hK141
      have hsz143 := hK141.size
      replace hB5 := hB5.kp hK141 (by omega)
      replace hT := hT.kp hK141 (by intro b hb hs; omega)
      replace hR := hR.kp hK141 (by omega)
      replace hK := hK.kp hK141 (by intro b hb hs; omega)
      replace hG := hG.kp hK141 (by intro b hb hs; omega)
      replace hP := hP.kp hK141 (by omega)
      replace hB4 : Blk wv140 _ _ _ := hS142
      clear hS142
      replace hKw := hKw.new hK141 (by intro b hb; subst hb; omega)
      refine SQ.nil ?_
      refine C.code ?_
      refine W.ret ?_
      refine C.retL (vs := [_]) Tryd.results27 ⟨⟨_, rfl, ld_agg Tryd.isAgg25 Tryd.sizeOf25 hB4 rfl⟩, trivial⟩ ?_
      have hsz9 := hKw.size
      have hl4 := hB4.lt
      have ht : rankP ts (k + 1) n a = .ok x a' := heq.trans (loopP_none hff)
      rw [ht]
      have hlp := hP.lt
      exact ⟨_, _, rfl, hT.mono (by intro b hb; omega), hR, by omega, hKw⟩
  · intro hag
    refine W.seq ?_
    refine W.seq ?_
    refine W.region ?_
    refine SQ.op rfl rfl rfl (r_move rfl rfl) ?_
    refine SQ.op rfl rfl rfl (r_geq rfl rfl rfl) ?_
    refine SQ.nil ?_
    refine C.code ?_
    refine W.cond rfl ?_ ?_
    · intro hc144
      try simp only [decide_eq_true_eq, decide_eq_false_iff_not, Bool.not_eq_true', Bool.not_eq_false', Bool.not_true, Bool.not_false, Bool.not_eq_true, Bool.not_eq_false] at hc144
      refine W.seq ?_
      refine W.region ?_
      refine SQ.op rfl rfl rfl (r_move rfl rfl) ?_
      rcases hresp : prefixP ts k a with ⟨xp, ap⟩ | ⟨ep, ap⟩ | _
      · have hsz147 := hKw.size
        have hlt148 := hR.lt
        have hlt149 := hB4.lt
        refine SQ.call rfl rfl rfl (rc_func rfl rfl Tryd.call39) (ihp k (by omega) ts A c r N a _ ⟨hR, hK, hNr, hGr, by first | assumption | omega, hn, hs, hG⟩ (by intro h; exact hne (by rw [rankP_1 (by assumption), h]; rfl))) ?_
        intro _ wv145 hpost
        rw [hresp] at hpost
        obtain ⟨Ap, cp, rfl, hTp, hRp, hap, hK146⟩ := hpost
        refine ⟨_, rfl, ?_⟩
        replace hK := hK.kp hK146 (by intro b hb hs; omega)
        replace hG := hG.kp hK146 (by intro b hb hs; omega)
        replace hB4 := hB4.kp hK146 (by omega)
        replace hKw := hKw.both hK146
        replace hR := hRp
        refine SQ.storeA rfl rfl rfl rfl rfl Tryd.sizeOf25 rfl hB4 ⟨rfl, rfl⟩ ?_
        intro wv150 hS152 hK151
        have hsz153 := hK151.size
        replace hR := hR.kp hK151 (by omega)
        replace hK := hK.kp hK151 (by intro b hb hs; omega)
        replace hG := hG.kp hK151 (by intro b hb hs; omega)
        replace hTp := hTp.kp hK151 (by intro b hb hs; omega)
        replace hB4 : Blk wv150 _ _ _ := hS152
        clear hS152
        replace hKw := hKw.new hK151 (by intro b hb; subst hb; omega)
        refine SQ.nil ?_
        refine C.code ?_
        refine W.ret ?_
        refine C.retL (vs := [_]) Tryd.results27 ⟨⟨_, rfl, ld_agg Tryd.isAgg25 Tryd.sizeOf25 hB4 rfl⟩, trivial⟩ ?_
        have hsz9 := hKw.size
        have hl4 := hB4.lt
        have ht : rankP ts (k + 1) n a = .ok xp ap := by rw [rankP_1 (by assumption), hresp]; rfl
        rw [ht]
        exact ⟨_, _, rfl, hTp.mono (by intro b hb; omega), hR, by omega, hKw⟩
      · refine SQ.callP rfl rfl rfl (rc_func rfl rfl Tryd.call39) (ihp k (by omega) ts A c r N a _ ⟨hR, hK, hNr, hGr, by first | assumption | omega, hn, hs, hG⟩ (by intro h; exact hne (by rw [rankP_1 (by assumption), h]; rfl))) ?_
        intro _ wv145 hpost
        rw [hresp] at hpost
        obtain ⟨rfl, hRp, hap, hK146⟩ := hpost
        refine .inr ⟨_, rfl, ?_⟩
        refine C.pan ?_
        have ht := (rankP_1 (ts := ts) (k := k) (a := a) (n := n) (by assumption))
        rw [hresp] at ht
        replace ht : rankP ts (k + 1) n a = .bad ep ap := ht
        rw [ht]
        exact ⟨rfl, hRp, hap, hKw.both hK146⟩
      · exact absurd (by have ht := (rankP_1 (ts := ts) (k := k) (a := a) (n := n) (by assumption)); rw [hresp] at ht; exact ht) hne
    · intro hc144
      try simp only [decide_eq_true_eq, decide_eq_false_iff_not, Bool.not_eq_true', Bool.not_eq_false', Bool.not_true, Bool.not_false, Bool.not_eq_true, Bool.not_eq_false] at hc144
      refine W.skip ?_
      refine C.code ?_
      refine W.seq ?_
      refine W.seq ?_
      refine W.region ?_
      refine SQ.op rfl rfl rfl (r_move rfl rfl) ?_
      refine SQ.op rfl rfl rfl (r_eqlInt rfl rfl rfl) ?_
      refine SQ.opB rfl rfl rfl (r_move rfl rfl) ?_ ?_
      · intro hb3_2
        try simp only [decide_eq_true_eq, decide_eq_false_iff_not, Bool.not_eq_true', Bool.not_eq_false', Bool.not_true, Bool.not_false, Bool.not_eq_true, Bool.not_eq_false] at hb3_2
        refine SQ.guarded rfl rfl rfl rfl rfl ?_
        refine SQ.op rfl rfl rfl (r_move rfl rfl) ?_
        refine SQ.guarded rfl rfl rfl rfl rfl ?_
        have hsz154 := hKw.size
        refine SQ.call rfl rfl rfl (rc_func rfl rfl Tryd.call40) (takes_spec ts r N A c _ _ _ _ hR hK hNr (by first | assumption | omega) hn) ?_
        rintro _ wv155 ⟨rfl, hR2, hE156⟩
        refine ⟨_, rfl, ?_⟩
        replace hK := hK.kp hE156 (by intro b hb hs; omega)
        replace hG := hG.kp hE156 (by intro b hb hs; omega)
        replace hB4 := hB4.kp hE156 (by omega)
        replace hKw := hKw.both hE156
        replace hR := hR2
        clear hR2
        refine both (G := fun v => SQ _ _ _ _ _ _ ((_, v) :: _) _) ?_ ?_
        · intro hb3_4
          first | rw [if_pos hb3_4] at hR | rw [if_neg (by simp [hb3_4])] at hR
          try have hlt' := takesB_lt hb3_4
          refine SQ.op rfl rfl rfl (r_pick_t rfl rfl rfl) ?_
          refine SQ.nil ?_
          refine C.code ?_
          refine W.cond_t rfl ?_
          refine W.seq ?_
          refine W.region ?_
          refine SQ.op rfl rfl rfl (r_move rfl rfl) ?_
          rcases hresc : choiceP ts k (a + 1) with ⟨xc, ac⟩ | ⟨ec, ac⟩ | _
          · have hsz159 := hKw.size
            have hlt160 := hR.lt
            have hlt161 := hB4.lt
            refine SQ.call rfl rfl rfl (rc_func rfl rfl Tryd.call41) (ihc k (by omega) ts A c r N (a + 1) _ ⟨hR, hK, hNr, hGr, by first | assumption | omega, hn, hs, hG⟩ (by intro h; exact hne (by rw [rankP_2 (by assumption) (by assumption) (by assumption), h]; rfl))) ?_
            intro _ wv157 hpost
            rw [hresc] at hpost
            obtain ⟨Ac, cc, rfl, hTc, hRc, hac, hK158⟩ := hpost
            refine ⟨_, rfl, ?_⟩
            replace hK := hK.kp hK158 (by intro b hb hs; omega)
            replace hG := hG.kp hK158 (by intro b hb hs; omega)
            replace hB4 := hB4.kp hK158 (by omega)
            replace hKw := hKw.both hK158
            replace hR := hRc
            refine SQ.storeA rfl rfl rfl rfl rfl Tryd.sizeOf25 rfl hB4 ⟨rfl, rfl⟩ ?_
            intro wv162 hS164 hK163
            have hsz165 := hK163.size
            replace hR := hR.kp hK163 (by omega)
            replace hK := hK.kp hK163 (by intro b hb hs; omega)
            replace hG := hG.kp hK163 (by intro b hb hs; omega)
            replace hTc := hTc.kp hK163 (by intro b hb hs; omega)
            replace hB4 : Blk wv162 _ _ _ := hS164
            clear hS164
            replace hKw := hKw.new hK163 (by intro b hb; subst hb; omega)
            refine SQ.nil ?_
            refine C.code ?_
            refine W.ret ?_
            refine C.retL (vs := [_]) Tryd.results27 ⟨⟨_, rfl, ld_agg Tryd.isAgg25 Tryd.sizeOf25 hB4 rfl⟩, trivial⟩ ?_
            have hsz9 := hKw.size
            have hl4 := hB4.lt
            have ht : rankP ts (k + 1) n a = .ok xc ac := by rw [rankP_2 (by assumption) (by assumption) (by assumption), hresc]; rfl
            rw [ht]
            exact ⟨_, _, rfl, hTc.mono (by intro b hb; omega), hR, by omega, hKw⟩
          · refine SQ.callP rfl rfl rfl (rc_func rfl rfl Tryd.call41) (ihc k (by omega) ts A c r N (a + 1) _ ⟨hR, hK, hNr, hGr, by first | assumption | omega, hn, hs, hG⟩ (by intro h; exact hne (by rw [rankP_2 (by assumption) (by assumption) (by assumption), h]; rfl))) ?_
            intro _ wv157 hpost
            rw [hresc] at hpost
            obtain ⟨rfl, hRc, hac, hK158⟩ := hpost
            refine .inr ⟨_, rfl, ?_⟩
            refine C.pan ?_
            have ht := (rankP_2 (ts := ts) (k := k) (a := a) (n := n) (by assumption) (by assumption) (by assumption))
            rw [hresc] at ht
            replace ht : rankP ts (k + 1) n a = .bad ec ac := ht
            rw [ht]
            exact ⟨rfl, hRc, hac, hKw.both hK158⟩
          · exact absurd (by have ht := (rankP_2 (ts := ts) (k := k) (a := a) (n := n) (by assumption) (by assumption) (by assumption)); rw [hresc] at ht; exact ht) hne
        · intro hb3_4
          first | rw [if_pos hb3_4] at hR | rw [if_neg (by simp [hb3_4])] at hR
          try have hlt' := takesB_lt hb3_4
          refine SQ.op rfl rfl rfl (r_pick_t rfl rfl rfl) ?_
          refine SQ.nil ?_
          refine C.code ?_
          refine W.cond_f rfl ?_
          refine W.skip ?_
          refine C.code ?_
          refine W.seq ?_
          refine W.region ?_
          refine SQ.op rfl rfl rfl (r_move rfl rfl) ?_
          refine SQ.op rfl rfl rfl (r_move rfl rfl) ?_
          refine SQ.op rfl rfl rfl (r_add rfl rfl rfl (w64 (by omega))) ?_
          rcases hres0 : rankP ts k (n + 1) a with ⟨x0, a0⟩ | ⟨e0, a0⟩ | _
          · have hsz168 := hKw.size
            have hlt169 := hR.lt
            have hlt170 := hB4.lt
            refine SQ.call rfl rfl rfl (rc_func rfl rfl Tryd.call27) (ihr k (by omega) ts A c r N a (n + 1) _ ⟨hR, hK, hNr, hGr, by first | assumption | omega, hn, hs, hG⟩ (by omega) (by omega) (by intro h; exact hne (by rw [rankP_3 (by assumption) (by simp [*]), h]; rfl))) ?_
            intro _ wv166 hpost
            rw [hres0] at hpost
            obtain ⟨A0, c0, rfl, hT0, hR0, ha0, hK167⟩ := hpost
            refine ⟨_, rfl, ?_⟩
            replace hK := hK.kp hK167 (by intro b hb hs; omega)
            replace hG := hG.kp hK167 (by intro b hb hs; omega)
            replace hB4 := hB4.kp hK167 (by omega)
            replace hKw := hKw.both hK167
            replace hR := hR0
            have hsz175 := hKw.size
            refine SQ.new (v := (fun nb => .pointer (some ⟨nb, 0, none⟩))) rfl rfl rfl (r_alloc rfl Tryd.zeroValue25) ?_
            intro nb5 wv171 hge172 hlt173 hB5 hE174
            have hlt_hR_hB5 := Nat.lt_of_lt_of_le hR.lt hge172
            have hge_hG_hB5 := Nat.le_trans hG.size hge172
            have hlt_hB4_hB5 := Nat.lt_of_lt_of_le hB4.lt hge172
            replace hR := hR.ext hE174
            replace hK := hK.ext hE174
            replace hG := hG.ext hE174
            replace hB4 := hB4.ext hE174
            replace hT0 := hT0.ext hE174
            replace hKw := hKw.ext hE174
            replace hB5 : Blk wv171 nb5 _ _ := hB5
            refine SQ.storeA rfl rfl rfl rfl rfl Tryd.sizeOf25 rfl hB5 ⟨rfl, rfl⟩ ?_
            intro wv176 hS178 hK177
            have hsz179 := hK177.size
            replace hR := hR.kp hK177 (by omega)
            replace hK := hK.kp hK177 (by intro b hb hs; omega)
            replace hG := hG.kp hK177 (by intro b hb hs; omega)
            replace hB4 := hB4.kp hK177 (by omega)
            replace hT0 := hT0.kp hK177 (by intro b hb hs; omega)
            replace hB5 : Blk wv176 _ _ _ := hS178
            clear hS178
            replace hKw := hKw.new hK177 (by intro b hb; subst hb; omega)
            refine SQ.nil ?_
            refine C.code ?_
            refine W.seq ?_
            refine W.label ?_
            refine C.code ?_
            have hsz9 := hKw.size
            have hl5 := hB5.lt
            have hl4 := hB4.lt
            refine W.sub _ ?_ (hag (k, x0, A0, c0, a0, nb5) _ ⟨hB5, hB4, hT0.mono (by intro b hb; dsimp only at hb ⊢; omega), hR, hK, hG, hKw, by dsimp only; omega, by dsimp only; omega, by dsimp only; omega, Nat.le_refl _, by have ht := (rankP_3 (ts := ts) (k := k) (a := a) (n := n) (by assumption) (by simp [*])); rw [hres0] at ht; exact ht⟩)
            exact ⟨rfl, rfl, rfl, rfl, trivial⟩
          · refine SQ.callP rfl rfl rfl (rc_func rfl rfl Tryd.call27) (ihr k (by omega) ts A c r N a (n + 1) _ ⟨hR, hK, hNr, hGr, by first | assumption | omega, hn, hs, hG⟩ (by omega) (by omega) (by intro h; exact hne (by rw [rankP_3 (by assumption) (by simp [*]), h]; rfl))) ?_
            intro _ wv166 hpost
            rw [hres0] at hpost
            obtain ⟨rfl, hR0, ha0, hK167⟩ := hpost
            refine .inr ⟨_, rfl, ?_⟩
            refine C.pan ?_
            have ht := (rankP_3 (ts := ts) (k := k) (a := a) (n := n) (by assumption) (by simp [*]))
            rw [hres0] at ht
            replace ht : rankP ts (k + 1) n a = .bad e0 a0 := ht
            rw [ht]
            exact ⟨rfl, hR0, ha0, hKw.both hK167⟩
          · exact absurd (by have ht := (rankP_3 (ts := ts) (k := k) (a := a) (n := n) (by assumption) (by simp [*])); rw [hres0] at ht; exact ht) hne
      · intro hb3_2
        try simp only [decide_eq_true_eq, decide_eq_false_iff_not, Bool.not_eq_true', Bool.not_eq_false', Bool.not_true, Bool.not_false, Bool.not_eq_true, Bool.not_eq_false] at hb3_2
        refine SQ.skip rfl rfl rfl rfl rfl rfl rfl ?_
        refine SQ.skip rfl rfl rfl rfl rfl rfl rfl ?_
        refine SQ.op rfl rfl rfl (r_pick_f rfl rfl rfl) ?_
        refine SQ.nil ?_
        refine C.code ?_
        refine W.cond_f rfl ?_
        refine W.skip ?_
        refine C.code ?_
        refine W.seq ?_
        refine W.region ?_
        refine SQ.op rfl rfl rfl (r_move rfl rfl) ?_
        refine SQ.op rfl rfl rfl (r_move rfl rfl) ?_
        refine SQ.op rfl rfl rfl (r_add rfl rfl rfl (w64 (by omega))) ?_
        rcases hres0 : rankP ts k (n + 1) a with ⟨x0, a0⟩ | ⟨e0, a0⟩ | _
        · have hsz182 := hKw.size
          have hlt183 := hR.lt
          have hlt184 := hB4.lt
          refine SQ.call rfl rfl rfl (rc_func rfl rfl Tryd.call27) (ihr k (by omega) ts A c r N a (n + 1) _ ⟨hR, hK, hNr, hGr, by first | assumption | omega, hn, hs, hG⟩ (by omega) (by omega) (by intro h; exact hne (by rw [rankP_3 (by assumption) (by simp [*]), h]; rfl))) ?_
          intro _ wv180 hpost
          rw [hres0] at hpost
          obtain ⟨A0, c0, rfl, hT0, hR0, ha0, hK181⟩ := hpost
          refine ⟨_, rfl, ?_⟩
          replace hK := hK.kp hK181 (by intro b hb hs; omega)
          replace hG := hG.kp hK181 (by intro b hb hs; omega)
          replace hB4 := hB4.kp hK181 (by omega)
          replace hKw := hKw.both hK181
          replace hR := hR0
          have hsz189 := hKw.size
          refine SQ.new (v := (fun nb => .pointer (some ⟨nb, 0, none⟩))) rfl rfl rfl (r_alloc rfl Tryd.zeroValue25) ?_
          intro nb5 wv185 hge186 hlt187 hB5 hE188
          have hlt_hR_hB5 := Nat.lt_of_lt_of_le hR.lt hge186
          have hge_hG_hB5 := Nat.le_trans hG.size hge186
          have hlt_hB4_hB5 := Nat.lt_of_lt_of_le hB4.lt hge186
          replace hR := hR.ext hE188
          replace hK := hK.ext hE188
          replace hG := hG.ext hE188
          replace hB4 := hB4.ext hE188
          replace hT0 := hT0.ext hE188
          replace hKw := hKw.ext hE188
          replace hB5 : Blk wv185 nb5 _ _ := hB5
          refine SQ.storeA rfl rfl rfl rfl rfl Tryd.sizeOf25 rfl hB5 ⟨rfl, rfl⟩ ?_
          intro wv190 hS192 hK191
          have hsz193 := hK191.size
          replace hR := hR.kp hK191 (by omega)
          replace hK := hK.kp hK191 (by intro b hb hs; omega)
          replace hG := hG.kp hK191 (by intro b hb hs; omega)
          replace hB4 := hB4.kp hK191 (by omega)
          replace hT0 := hT0.kp hK191 (by intro b hb hs; omega)
          replace hB5 : Blk wv190 _ _ _ := hS192
          clear hS192
          replace hKw := hKw.new hK191 (by intro b hb; subst hb; omega)
          refine SQ.nil ?_
          refine C.code ?_
          refine W.seq ?_
          refine W.label ?_
          refine C.code ?_
          have hsz9 := hKw.size
          have hl5 := hB5.lt
          have hl4 := hB4.lt
          refine W.sub _ ?_ (hag (k, x0, A0, c0, a0, nb5) _ ⟨hB5, hB4, hT0.mono (by intro b hb; dsimp only at hb ⊢; omega), hR, hK, hG, hKw, by dsimp only; omega, by dsimp only; omega, by dsimp only; omega, Nat.le_refl _, by have ht := (rankP_3 (ts := ts) (k := k) (a := a) (n := n) (by assumption) (by simp [*])); rw [hres0] at ht; exact ht⟩)
          exact ⟨rfl, rfl, rfl, rfl, trivial⟩
        · refine SQ.callP rfl rfl rfl (rc_func rfl rfl Tryd.call27) (ihr k (by omega) ts A c r N a (n + 1) _ ⟨hR, hK, hNr, hGr, by first | assumption | omega, hn, hs, hG⟩ (by omega) (by omega) (by intro h; exact hne (by rw [rankP_3 (by assumption) (by simp [*]), h]; rfl))) ?_
          intro _ wv180 hpost
          rw [hres0] at hpost
          obtain ⟨rfl, hR0, ha0, hK181⟩ := hpost
          refine .inr ⟨_, rfl, ?_⟩
          refine C.pan ?_
          have ht := (rankP_3 (ts := ts) (k := k) (a := a) (n := n) (by assumption) (by simp [*]))
          rw [hres0] at ht
          replace ht : rankP ts (k + 1) n a = .bad e0 a0 := ht
          rw [ht]
          exact ⟨rfl, hR0, ha0, hKw.both hK181⟩
        · exact absurd (by have ht := (rankP_3 (ts := ts) (k := k) (a := a) (n := n) (by assumption) (by simp [*])); rw [hres0] at ht; exact ht) hne

theorem readers : ∀ k, (∀ m, m ≤ k → RankAt m) ∧ (∀ m, m ≤ k → PrefAt m) ∧ (∀ m, m ≤ k → ChoiceAt m)
  | 0 => ⟨fun m hm ts A c r N a n w _ _ _ h => by obtain rfl : m = 0 := by omega
                                                  exact absurd (by rw [rankP]) h,
      fun m hm ts A c r N a w _ h => by obtain rfl : m = 0 := by omega
                                        exact absurd (by rw [prefixP]) h,
      fun m hm ts A c r N a w _ h => by obtain rfl : m = 0 := by omega
                                        exact absurd (by rw [choiceP]) h⟩
  | k + 1 => by
    obtain ⟨h1, h2, h3⟩ := readers k
    refine ⟨fun m hm => ?_, fun m hm => ?_, fun m hm => ?_⟩
    all_goals
      rcases Nat.lt_or_ge k m with h | h
      · obtain rfl : m = k + 1 := by omega
        first
          | exact fun ts A c r N a n w hRd h0 h7 hne => rank_step k h1 h2 h3 ts A c r N a n w hRd h0 h7 hne
          | exact fun ts A c r N a w hRd hne => prefix_step k (h1 k (Nat.le_refl _)) (h2 k (Nat.le_refl _)) ts A c r N a w hRd hne
          | exact fun ts A c r N a w hRd hne => choice_step k (h1 k (Nat.le_refl _)) ts A c r N a w hRd hne
      · first | exact h1 m h | exact h2 m h | exact h3 m h
theorem rank_spec (k : Nat) : RankAt k := (readers k).1 k (Nat.le_refl _)


end Go.Proofs.YtclokcmgigdjlaaDoor
