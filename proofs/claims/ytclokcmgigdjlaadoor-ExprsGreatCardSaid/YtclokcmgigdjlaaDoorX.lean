/- Printed by this session's own program out of the translation, and by hand. -/
import Derived.Test.YtclokcmgigdjlaaDoorT
set_option linter.unusedVariables false
set_option linter.unusedSimpArgs false
set_option maxRecDepth 4000
namespace Go.Proofs.YtclokcmgigdjlaaDoor
open Go.FL Go.RowKit Go.Proofs

/-! ### Operators -/
structure Form where
  op : Int
  rank : Int
  kind : Int
  text : ByteArray
def Form.enc (f : Form) : List Value := [.int .u8 f.op, .int .i64 f.rank, .int .u8 f.kind, .string f.text]
def pairsF : List Form := [⟨18, 0, 3, ⟨#[45, 62]⟩⟩, ⟨16, 1, 1, ⟨#[111, 114]⟩⟩, ⟨15, 2, 1, ⟨#[97, 110, 100]⟩⟩, ⟨11, 3, 3, ⟨#[61, 61]⟩⟩, ⟨12, 3, 3, ⟨#[33, 61]⟩⟩, ⟨13, 3, 3, ⟨#[60]⟩⟩, ⟨14, 3, 3, ⟨#[60, 61]⟩⟩, ⟨6, 4, 3, ⟨#[43]⟩⟩, ⟨7, 4, 3, ⟨#[45]⟩⟩, ⟨8, 5, 3, ⟨#[42]⟩⟩, ⟨9, 5, 3, ⟨#[47]⟩⟩, ⟨10, 5, 3, ⟨#[37]⟩⟩]
def prefixesF : List Form := [⟨4, 6, 3, ⟨#[45]⟩⟩, ⟨5, 6, 1, ⟨#[110, 111, 116]⟩⟩, ⟨19, 6, 1, ⟨#[112, 114, 101]⟩⟩]
def noForm : Form := ⟨0, 7, 0, ⟨#[]⟩⟩
def findR : List Form → Int → Form × Bool
  | [], _ => (noForm, false)
  | f :: r, o => if f.op = o then (f, true) else findR r o
theorem findR_skip : ∀ (fs : List Form) (o : Int) (i : Nat), (∀ j f, j < i → fs[j]? = some f → f.op ≠ o) → findR fs o = findR (fs.drop i) o
  | _, _, 0, _ => rfl
  | [], _, i + 1, _ => by simp
  | f :: r, o, i + 1, h => by
    rw [findR, if_neg (h 0 f (by omega) rfl)]
    exact findR_skip r o i (fun j g hj hg => h (j + 1) g (by omega) hg)
theorem findR_at {fs : List Form} {o : Int} {i : Nat} {f : Form} (hno : ∀ j f, j < i → fs[j]? = some f → f.op ≠ o) (hf : fs[i]? = some f) (h : f.op = o) : findR fs o = (f, true) := by
  have hi : i < fs.length := (List.getElem?_eq_some_iff.1 hf).1
  have he : fs[i] = f := (List.getElem?_eq_some_iff.1 hf).2
  rw [findR_skip fs o i hno, List.drop_eq_getElem_cons hi, he, findR, if_pos h]
theorem findR_end {fs : List Form} {o : Int} (hno : ∀ j f, j < fs.length → fs[j]? = some f → f.op ≠ o) : findR fs o = (noForm, false) := by
  rw [findR_skip fs o fs.length hno]; simp [findR]
def partsR (o : Int) : Int := if o = 1 ∨ o = 2 ∨ o = 3 then 0 else if o = 17 then 3 else if (findR pairsF o).2 = true then 2 else if (findR prefixesF o).2 = true then 1 else -1
theorem partsR_le (o : Int) : partsR o ≤ 3 := by
  unfold partsR
  repeat' split
  all_goals omega
def rankR (o : Int) : Int := if o = 17 then 0 else if (findR pairsF o).2 = true then (findR pairsF o).1.rank else (findR prefixesF o).1.rank
def asksR (f : Form) : Int × Int := if f.rank = 0 then (1, 0) else if f.rank = 3 then (4, 4) else (f.rank, f.rank + 1)

/-- belfry.exprs.pairs -/
theorem pairs_spec (w : World) :
    Calls Tryd.prog 42 #[] w fun e w' => ∃ b, e = .returned (.slice (some ⟨b, 0, none⟩) 12 12) ∧ Blk w' b (pairsF.flatMap Form.enc) 88 ∧ w.heap.size ≤ b ∧ Ext w w' := by
  refine calls_of Tryd.func42 rfl Tryd.ntmps42 rfl ?_
  have hEw := Kp.refl (fun _ => False) w
  refine W.seq ?_
  refine W.region ?_
  refine SQ.op rfl rfl rfl (r_assign rfl rfl) ?_
  refine SQ.nil ?_
  refine C.code ?_
  refine W.seq ?_
  refine W.region ?_
  refine SQ.op rfl rfl rfl (r_build (pl := [(0, 1), (1, 1), (2, 1), (3, 1)]) rfl rfl Tryd.underlying88 Tryd.zeroValue88 (fun _ => by kernel_rfl) rfl rfl) ?_
  refine SQ.op rfl rfl rfl (r_build (pl := [(0, 1), (1, 1), (2, 1), (3, 1)]) rfl rfl Tryd.underlying88 Tryd.zeroValue88 (fun _ => by kernel_rfl) rfl rfl) ?_
  refine SQ.op rfl rfl rfl (r_build (pl := [(0, 1), (1, 1), (2, 1), (3, 1)]) rfl rfl Tryd.underlying88 Tryd.zeroValue88 (fun _ => by kernel_rfl) rfl rfl) ?_
  refine SQ.op rfl rfl rfl (r_build (pl := [(0, 1), (1, 1), (2, 1), (3, 1)]) rfl rfl Tryd.underlying88 Tryd.zeroValue88 (fun _ => by kernel_rfl) rfl rfl) ?_
  refine SQ.op rfl rfl rfl (r_build (pl := [(0, 1), (1, 1), (2, 1), (3, 1)]) rfl rfl Tryd.underlying88 Tryd.zeroValue88 (fun _ => by kernel_rfl) rfl rfl) ?_
  refine SQ.op rfl rfl rfl (r_build (pl := [(0, 1), (1, 1), (2, 1), (3, 1)]) rfl rfl Tryd.underlying88 Tryd.zeroValue88 (fun _ => by kernel_rfl) rfl rfl) ?_
  refine SQ.op rfl rfl rfl (r_build (pl := [(0, 1), (1, 1), (2, 1), (3, 1)]) rfl rfl Tryd.underlying88 Tryd.zeroValue88 (fun _ => by kernel_rfl) rfl rfl) ?_
  refine SQ.op rfl rfl rfl (r_build (pl := [(0, 1), (1, 1), (2, 1), (3, 1)]) rfl rfl Tryd.underlying88 Tryd.zeroValue88 (fun _ => by kernel_rfl) rfl rfl) ?_
  refine SQ.op rfl rfl rfl (r_build (pl := [(0, 1), (1, 1), (2, 1), (3, 1)]) rfl rfl Tryd.underlying88 Tryd.zeroValue88 (fun _ => by kernel_rfl) rfl rfl) ?_
  refine SQ.op rfl rfl rfl (r_build (pl := [(0, 1), (1, 1), (2, 1), (3, 1)]) rfl rfl Tryd.underlying88 Tryd.zeroValue88 (fun _ => by kernel_rfl) rfl rfl) ?_
  refine SQ.op rfl rfl rfl (r_build (pl := [(0, 1), (1, 1), (2, 1), (3, 1)]) rfl rfl Tryd.underlying88 Tryd.zeroValue88 (fun _ => by kernel_rfl) rfl rfl) ?_
  refine SQ.op rfl rfl rfl (r_build (pl := [(0, 1), (1, 1), (2, 1), (3, 1)]) rfl rfl Tryd.underlying88 Tryd.zeroValue88 (fun _ => by kernel_rfl) rfl rfl) ?_
  have hsz5 := hEw.size
  refine SQ.new (v := (fun nb => .slice (some ⟨nb, 0, none⟩) 12 12)) rfl rfl rfl (r_buildSlice rfl rfl Tryd.underlying85 Tryd.sizeOf88 Tryd.zeroValue88 rfl rfl rfl rfl rfl) ?_
  intro nb13 wv1 hge2 hlt3 hB13 hE4
  replace hEw := hEw.ext hE4
  replace hB13 : Blk wv1 nb13 _ _ := hB13
  refine SQ.op rfl rfl rfl (r_assign rfl rfl) ?_
  refine SQ.nil ?_
  refine C.code ?_
  refine W.ret ?_
  refine C.ret1 Tryd.results42 rfl ?_
  exact ⟨_, rfl, hB13, hge2, hEw⟩

/-- belfry.exprs.prefixes -/
theorem prefixes_spec (w : World) :
    Calls Tryd.prog 48 #[] w fun e w' => ∃ b, e = .returned (.slice (some ⟨b, 0, none⟩) 3 3) ∧ Blk w' b (prefixesF.flatMap Form.enc) 88 ∧ w.heap.size ≤ b ∧ Ext w w' := by
  refine calls_of Tryd.func48 rfl Tryd.ntmps48 rfl ?_
  have hEw := Kp.refl (fun _ => False) w
  refine W.seq ?_
  refine W.region ?_
  refine SQ.op rfl rfl rfl (r_assign rfl rfl) ?_
  refine SQ.nil ?_
  refine C.code ?_
  refine W.seq ?_
  refine W.region ?_
  refine SQ.op rfl rfl rfl (r_build (pl := [(0, 1), (1, 1), (2, 1), (3, 1)]) rfl rfl Tryd.underlying88 Tryd.zeroValue88 (fun _ => by kernel_rfl) rfl rfl) ?_
  refine SQ.op rfl rfl rfl (r_build (pl := [(0, 1), (1, 1), (2, 1), (3, 1)]) rfl rfl Tryd.underlying88 Tryd.zeroValue88 (fun _ => by kernel_rfl) rfl rfl) ?_
  refine SQ.op rfl rfl rfl (r_build (pl := [(0, 1), (1, 1), (2, 1), (3, 1)]) rfl rfl Tryd.underlying88 Tryd.zeroValue88 (fun _ => by kernel_rfl) rfl rfl) ?_
  have hsz5 := hEw.size
  refine SQ.new (v := (fun nb => .slice (some ⟨nb, 0, none⟩) 3 3)) rfl rfl rfl (r_buildSlice rfl rfl Tryd.underlying85 Tryd.sizeOf88 Tryd.zeroValue88 rfl rfl rfl rfl rfl) ?_
  intro nb4 wv1 hge2 hlt3 hB4 hE4
  replace hEw := hEw.ext hE4
  replace hB4 : Blk wv1 nb4 _ _ := hB4
  refine SQ.op rfl rfl rfl (r_assign rfl rfl) ?_
  refine SQ.nil ?_
  refine C.code ?_
  refine W.ret ?_
  refine C.ret1 Tryd.results48 rfl ?_
  exact ⟨_, rfl, hB4, hge2, hEw⟩

/-- belfry.exprs.find -/
theorem find_spec (fs : List Form) (b c : Nat) (o : Int) (w : World) (hF : Blk w b (fs.flatMap Form.enc) 88) (hl : fs.length ≤ 1000) :
    Calls Tryd.prog 46 #[.slice (some ⟨b, 0, none⟩) fs.length c, .int .u8 o] w fun e w' => e = .returned (.tuple #[.agg (findR fs o).1.enc.toArray, .bool (findR fs o).2]) ∧ Ext w w' := by
  refine calls_of Tryd.func46 rfl Tryd.ntmps46 rfl ?_
  have hEw := Kp.refl (fun _ => False) w
  refine W.seq ?_
  refine W.region ?_
  have hsz5 := hEw.size
  refine SQ.new (v := (fun nb => .pointer (some ⟨nb, 0, none⟩))) rfl rfl rfl (r_alloc rfl Tryd.zeroValue88) ?_
  intro nb4 wv1 hge2 hlt3 hB4 hE4
  have hlt_hF_hB4 := Nat.lt_of_lt_of_le hF.lt hge2
  replace hF := hF.ext hE4
  replace hEw := hEw.ext hE4
  replace hB4 : Blk wv1 nb4 _ _ := hB4
  refine SQ.op rfl rfl rfl (r_assign rfl rfl) ?_
  refine SQ.nil ?_
  refine C.code ?_
  refine W.seq ?_
  refine W.seq ?_
  refine W.region ?_
  refine SQ.op rfl rfl rfl (r_move rfl rfl) ?_
  refine SQ.op rfl rfl rfl (r_lenSlice rfl rfl Tryd.underlying85) ?_
  refine SQ.op rfl rfl rfl (r_move rfl rfl) ?_
  refine SQ.nil ?_
  refine C.code ?_
  refine W.block ?_
  refine W.loop (α := Nat) (fun i => [(0, .slice (some ⟨b, 0, none⟩) fs.length c), (1, .int .u8 o), (4, .pointer (some ⟨nb4, 0, none⟩)), (8, .slice (some ⟨b, 0, none⟩) fs.length c), (9, .int .i64 (fs.length : Int)), (10, .int .i64 (i : Int))]) (fun i w1 => Blk w1 b (fs.flatMap Form.enc) 88 ∧ (∃ z : Form, Blk w1 nb4 z.enc 88) ∧ w.heap.size ≤ nb4 ∧ Ext w w1 ∧ i ≤ fs.length ∧ ∀ j f, j < i → fs[j]? = some f → f.op ≠ o) (fun i => fs.length - i) 0 ⟨rfl, rfl, rfl, rfl, rfl, rfl, trivial⟩ ⟨hF, ⟨⟨0, 0, 0, ⟨#[]⟩⟩, hB4⟩, by omega, hEw, by omega, fun j f h => absurd h (by omega)⟩ ?_
  rintro i wl ⟨hF, ⟨z4, hB4⟩, hge4, hEw, hile, hno⟩
  by_cases hi : i < fs.length
  · obtain ⟨f, hf⟩ : ∃ f, fs[i]? = some f := ⟨_, List.getElem?_eq_getElem hi⟩
    have hC := hF.sub (z := 4) (fun _ => rfl) hf
    refine W.seq ?_
    refine W.region ?_
    refine SQ.opD true rfl rfl rfl (r_lss rfl rfl rfl) (by simp; omega) ?_
    refine SQ.nil ?_
    refine C.code ?_
    refine W.seq ?_
    refine W.cond_t rfl ?_
    refine W.skip ?_
    refine C.code ?_
    refine W.seq ?_
    refine W.block ?_
    refine W.seq ?_
    refine W.region ?_
    refine SQ.op rfl rfl rfl (r_indexAddr rfl rfl rfl Tryd.underlying85 Tryd.sizeOf88 rfl (by omega)) ?_
    refine SQ.op rfl rfl rfl (r_loadAgg rfl rfl Tryd.isAgg88 Tryd.sizeOf88 rfl (by first | exact hC | exact hB4.cells | exact hF.cells | assumption)) ?_
    have hsz10 := hEw.size
    refine SQ.new (v := (fun nb => .pointer (some ⟨nb, 0, none⟩))) rfl rfl rfl (r_alloc rfl Tryd.zeroValue88) ?_
    intro nb7 wv6 hge7 hlt8 hB7 hE9
    have hlt_hF_hB7 := Nat.lt_of_lt_of_le hF.lt hge7
    have hlt_hB4_hB7 := Nat.lt_of_lt_of_le hB4.lt hge7
    replace hF := hF.ext hE9
    replace hB4 := hB4.ext hE9
    replace hC := hC.ext hE9
    replace hEw := hEw.ext hE9
    replace hB7 : Blk wv6 nb7 _ _ := hB7
    refine SQ.storeA rfl rfl rfl rfl rfl Tryd.sizeOf88 rfl hB7 ⟨rfl, rfl⟩ ?_
    intro wv11 hS13 hK12
    have hsz14 := hK12.size
    replace hF := hF.kp hK12 (by omega)
    replace hB4 := hB4.kp hK12 (by omega)
    replace hC := hC.kp hK12 (by omega)
    replace hB7 : Blk wv11 _ _ _ := hS13
    clear hS13
    replace hEw := hEw.new hK12 (by intro b hb; subst hb; omega)
    refine SQ.nil ?_
    refine C.code ?_
    refine W.seq ?_
    refine W.region ?_
    refine SQ.op rfl rfl rfl (r_fieldAddr rfl rfl Tryd.underlying88 rfl Tryd.sizeOf22 rfl) ?_
    refine SQ.op rfl rfl rfl (r_load rfl rfl Tryd.isAgg22 (by first | exact hB7.cell rfl | exact hC.cell rfl | exact hB4.cell rfl | exact hF.cell rfl | assumption)) ?_
    refine SQ.op rfl rfl rfl (r_move rfl rfl) ?_
    refine SQ.op rfl rfl rfl (r_eqlInt rfl rfl rfl) ?_
    refine SQ.nil ?_
    refine C.code ?_
    refine W.cond rfl ?_ ?_
    · intro hc15
      try simp only [decide_eq_true_eq, decide_eq_false_iff_not, Bool.not_eq_true', Bool.not_eq_false', Bool.not_true, Bool.not_false, Bool.not_eq_true, Bool.not_eq_false] at hc15
      refine W.seq ?_
      refine W.region ?_
      refine SQ.op rfl rfl rfl (r_loadAgg rfl rfl Tryd.isAgg88 Tryd.sizeOf88 rfl (by first | exact hB7.cells | exact hC | exact hB4.cells | exact hF.cells | assumption)) ?_
      refine SQ.storeA rfl rfl rfl rfl rfl Tryd.sizeOf88 rfl hB4 ⟨rfl, rfl⟩ ?_
      intro wv16 hS18 hK17
      have hsz19 := hK17.size
      replace hF := hF.kp hK17 (by omega)
      replace hC := hC.kp hK17 (by omega)
      replace hB7 := hB7.kp hK17 (by omega)
      replace hB4 : Blk wv16 _ _ _ := hS18
      clear hS18
      replace hEw := hEw.new hK17 (by intro b hb; subst hb; omega)
      refine SQ.op rfl rfl rfl (r_assign rfl rfl) ?_
      refine SQ.nil ?_
      refine C.code ?_
      refine W.ret ?_
      refine C.retL (vs := [_, _]) Tryd.results46 ⟨⟨_, rfl, ld_agg Tryd.isAgg88 Tryd.sizeOf88 hB4 rfl⟩, rfl, trivial⟩ ?_
      first
        | (have hr := findR_at hno hf (by assumption); rw [hr]; exact ⟨rfl, hEw⟩)
        | (have hr := findR_end (fun j f hj hf => hno j f (by omega) hf); rw [hr]; exact ⟨rfl, hEw⟩)
    · intro hc15
      try simp only [decide_eq_true_eq, decide_eq_false_iff_not, Bool.not_eq_true', Bool.not_eq_false', Bool.not_true, Bool.not_false, Bool.not_eq_true, Bool.not_eq_false] at hc15
      refine W.skip ?_
      refine C.code ?_
      refine W.region ?_
      refine SQ.op rfl rfl rfl (r_add rfl rfl rfl (w64 (by omega))) ?_
      refine SQ.op rfl rfl rfl (r_move rfl rfl) ?_
      refine SQ.nil ?_
      refine C.round (i + 1) ⟨rfl, rfl, rfl, rfl, rfl, rfl, trivial⟩ ⟨hF, ⟨_, hB4⟩, hge4, hEw, by omega, fun j g hj hg => ?_⟩ (by omega)
      rcases Nat.lt_or_ge j i with e | e
      · exact hno j g e hg
      · obtain rfl : j = i := by omega
        rw [hf] at hg; cases hg; assumption
  · refine W.seq ?_
    refine W.region ?_
    refine SQ.opD false rfl rfl rfl (r_lss rfl rfl rfl) (by simp; omega) ?_
    refine SQ.nil ?_
    refine C.code ?_
    refine W.seq ?_
    refine W.cond_f rfl ?_
    refine W.exit rfl ?_
    refine C.code ?_
    refine W.seq ?_
    refine W.region ?_
    refine SQ.op rfl rfl rfl (r_build (pl := [(0, 1), (1, 1), (2, 1), (3, 1)]) rfl rfl Tryd.underlying88 Tryd.zeroValue88 (fun _ => by kernel_rfl) rfl rfl) ?_
    refine SQ.storeA rfl rfl rfl rfl rfl Tryd.sizeOf88 rfl hB4 ⟨rfl, rfl⟩ ?_
    intro wv20 hS22 hK21
    have hsz23 := hK21.size
    replace hF := hF.kp hK21 (by omega)
    replace hB4 : Blk wv20 _ _ _ := hS22
    clear hS22
    replace hEw := hEw.new hK21 (by intro b hb; subst hb; omega)
    refine SQ.op rfl rfl rfl (r_assign rfl rfl) ?_
    refine SQ.nil ?_
    refine C.code ?_
    refine W.ret ?_
    refine C.retL (vs := [_, _]) Tryd.results46 ⟨⟨_, rfl, ld_agg Tryd.isAgg88 Tryd.sizeOf88 hB4 rfl⟩, rfl, trivial⟩ ?_
    first
      | (have hr := findR_at hno hf (by assumption); rw [hr]; exact ⟨rfl, hEw⟩)
      | (have hr := findR_end (fun j f hj hf => hno j f (by omega) hf); rw [hr]; exact ⟨rfl, hEw⟩)

/-- (belfry.exprs.form).asks -/
theorem asks_spec (f : Form) (w : World) (hr : 0 ≤ f.rank ∧ f.rank ≤ 7) :
    Calls Tryd.prog 43 #[.agg f.enc.toArray] w fun e w' => e = .returned (.agg #[.int .i64 (asksR f).1, .int .i64 (asksR f).2]) ∧ Ext w w' := by
  refine calls_of Tryd.func43 rfl Tryd.ntmps43 rfl ?_
  have hEw := Kp.refl (fun _ => False) w
  refine W.seq ?_
  refine W.region ?_
  have hsz5 := hEw.size
  refine SQ.new (v := (fun nb => .pointer (some ⟨nb, 0, none⟩))) rfl rfl rfl (r_box rfl rfl) ?_
  intro nb1 wv1 hge2 hlt3 hB1 hE4
  replace hEw := hEw.ext hE4
  replace hB1 : Blk wv1 nb1 _ _ := hB1
  have hsz10 := hEw.size
  refine SQ.new (v := (fun nb => .pointer (some ⟨nb, 0, none⟩))) rfl rfl rfl (r_alloc rfl Tryd.zeroValue89) ?_
  intro nb2 wv6 hge7 hlt8 hB2 hE9
  have hlt_hB1_hB2 := Nat.lt_of_lt_of_le hB1.lt hge7
  replace hB1 := hB1.ext hE9
  replace hEw := hEw.ext hE9
  replace hB2 : Blk wv6 nb2 _ _ := hB2
  refine SQ.nil ?_
  refine C.code ?_
  refine W.seq ?_
  refine W.seq ?_
  refine W.region ?_
  refine SQ.op rfl rfl rfl (r_fieldAddr rfl rfl Tryd.underlying88 rfl Tryd.sizeOf3 rfl) ?_
  refine SQ.op rfl rfl rfl (r_load rfl rfl Tryd.isAgg3 (by first | exact hB2.cell rfl | exact hB1.cell rfl | assumption)) ?_
  refine SQ.nil ?_
  refine C.code ?_
  refine W.block ?_
  refine W.seq ?_
  refine W.region ?_
  refine SQ.op rfl rfl rfl (r_eqlInt rfl rfl rfl) ?_
  refine SQ.op rfl rfl rfl (r_assign rfl rfl) ?_
  refine SQ.nil ?_
  refine C.code ?_
  refine W.cond rfl ?_ ?_
  · intro hc11
    try simp only [decide_eq_true_eq, decide_eq_false_iff_not, Bool.not_eq_true', Bool.not_eq_false', Bool.not_true, Bool.not_false, Bool.not_eq_true, Bool.not_eq_false] at hc11
    refine W.seq ?_
    refine W.region ?_
    refine SQ.op rfl rfl rfl (r_buildArr rfl rfl Tryd.underlying89 Tryd.zeroValue89 Tryd.sizeOf3 rfl) ?_
    refine SQ.storeA rfl rfl rfl rfl rfl Tryd.sizeOf89 rfl hB2 ⟨rfl, rfl⟩ ?_
    intro wv12 hS14 hK13
    have hsz15 := hK13.size
    replace hB1 := hB1.kp hK13 (by omega)
    replace hB2 : Blk wv12 _ _ _ := hS14
    clear hS14
    replace hEw := hEw.new hK13 (by intro b hb; subst hb; omega)
    refine SQ.nil ?_
    refine C.code ?_
    refine W.ret ?_
    refine C.retL (vs := [_]) Tryd.results43 ⟨⟨_, rfl, ld_agg Tryd.isAgg89 Tryd.sizeOf89 hB2 rfl⟩, trivial⟩ ?_
    refine ⟨?_, hEw⟩
    unfold asksR
    first
      | (rw [if_pos (by assumption)]; rfl)
      | (rw [if_neg (by assumption), if_pos (by assumption)]; rfl)
      | (rw [if_neg (by assumption), if_neg (by assumption)]; rfl)
  · intro hc11
    try simp only [decide_eq_true_eq, decide_eq_false_iff_not, Bool.not_eq_true', Bool.not_eq_false', Bool.not_true, Bool.not_false, Bool.not_eq_true, Bool.not_eq_false] at hc11
    refine W.seq ?_
    refine W.region ?_
    refine SQ.op rfl rfl rfl (r_eqlInt rfl rfl rfl) ?_
    refine SQ.op rfl rfl rfl (r_assign rfl rfl) ?_
    refine SQ.nil ?_
    refine C.code ?_
    refine W.cond rfl ?_ ?_
    · intro hc16
      try simp only [decide_eq_true_eq, decide_eq_false_iff_not, Bool.not_eq_true', Bool.not_eq_false', Bool.not_true, Bool.not_false, Bool.not_eq_true, Bool.not_eq_false] at hc16
      refine W.seq ?_
      refine W.region ?_
      refine SQ.op rfl rfl rfl (r_buildArr rfl rfl Tryd.underlying89 Tryd.zeroValue89 Tryd.sizeOf3 rfl) ?_
      refine SQ.storeA rfl rfl rfl rfl rfl Tryd.sizeOf89 rfl hB2 ⟨rfl, rfl⟩ ?_
      intro wv17 hS19 hK18
      have hsz20 := hK18.size
      replace hB1 := hB1.kp hK18 (by omega)
      replace hB2 : Blk wv17 _ _ _ := hS19
      clear hS19
      replace hEw := hEw.new hK18 (by intro b hb; subst hb; omega)
      refine SQ.nil ?_
      refine C.code ?_
      refine W.ret ?_
      refine C.retL (vs := [_]) Tryd.results43 ⟨⟨_, rfl, ld_agg Tryd.isAgg89 Tryd.sizeOf89 hB2 rfl⟩, trivial⟩ ?_
      refine ⟨?_, hEw⟩
      unfold asksR
      first
        | (rw [if_pos (by assumption)]; rfl)
        | (rw [if_neg (by assumption), if_pos (by assumption)]; rfl)
        | (rw [if_neg (by assumption), if_neg (by assumption)]; rfl)
    · intro hc16
      try simp only [decide_eq_true_eq, decide_eq_false_iff_not, Bool.not_eq_true', Bool.not_eq_false', Bool.not_true, Bool.not_false, Bool.not_eq_true, Bool.not_eq_false] at hc16
      refine W.skip ?_
      refine C.code ?_
      refine W.seq ?_
      refine W.region ?_
      refine SQ.op rfl rfl rfl (r_fieldAddr rfl rfl Tryd.underlying88 rfl Tryd.sizeOf3 rfl) ?_
      refine SQ.op rfl rfl rfl (r_load rfl rfl Tryd.isAgg3 (by first | exact hB2.cell rfl | exact hB1.cell rfl | assumption)) ?_
      refine SQ.op rfl rfl rfl (r_fieldAddr rfl rfl Tryd.underlying88 rfl Tryd.sizeOf3 rfl) ?_
      refine SQ.op rfl rfl rfl (r_load rfl rfl Tryd.isAgg3 (by first | exact hB2.cell rfl | exact hB1.cell rfl | assumption)) ?_
      refine SQ.op rfl rfl rfl (r_add rfl rfl rfl (w64 (by omega))) ?_
      refine SQ.op rfl rfl rfl (r_buildArr rfl rfl Tryd.underlying89 Tryd.zeroValue89 Tryd.sizeOf3 rfl) ?_
      refine SQ.storeA rfl rfl rfl rfl rfl Tryd.sizeOf89 rfl hB2 ⟨rfl, rfl⟩ ?_
      intro wv21 hS23 hK22
      have hsz24 := hK22.size
      replace hB1 := hB1.kp hK22 (by omega)
      replace hB2 : Blk wv21 _ _ _ := hS23
      clear hS23
      replace hEw := hEw.new hK22 (by intro b hb; subst hb; omega)
      refine SQ.nil ?_
      refine C.code ?_
      refine W.ret ?_
      refine C.retL (vs := [_]) Tryd.results43 ⟨⟨_, rfl, ld_agg Tryd.isAgg89 Tryd.sizeOf89 hB2 rfl⟩, trivial⟩ ?_
      refine ⟨?_, hEw⟩
      unfold asksR
      first
        | (rw [if_pos (by assumption)]; rfl)
        | (rw [if_neg (by assumption), if_pos (by assumption)]; rfl)
        | (rw [if_neg (by assumption), if_neg (by assumption)]; rfl)

/-- belfry.exprs.parts -/
theorem parts_spec (o : Int) (w : World) :
    Calls Tryd.prog 44 #[.int .u8 o] w fun e w' => e = .returned (.int .i64 (partsR o)) ∧ Ext w w' := by
  refine calls_of Tryd.func44 rfl Tryd.ntmps44 rfl ?_
  have hEw := Kp.refl (fun _ => False) w
  refine W.seq ?_
  refine W.region ?_
  refine SQ.op rfl rfl rfl (r_assign rfl rfl) ?_
  refine SQ.nil ?_
  refine C.code ?_
  refine W.seq ?_
  refine W.block ?_
  refine W.seq ?_
  refine W.region ?_
  refine SQ.op rfl rfl rfl (r_move rfl rfl) ?_
  refine SQ.op rfl rfl rfl (r_eqlInt rfl rfl rfl) ?_
  refine SQ.opB rfl rfl rfl (r_move rfl rfl) ?_ ?_
  · intro hb1_2
    try simp only [decide_eq_true_eq, decide_eq_false_iff_not, Bool.not_eq_true', Bool.not_eq_false', Bool.not_true, Bool.not_false, Bool.not_eq_true, Bool.not_eq_false] at hb1_2
    refine SQ.skip rfl rfl rfl rfl rfl rfl rfl ?_
    refine SQ.skip rfl rfl rfl rfl rfl rfl rfl ?_
    refine SQ.op rfl rfl rfl (r_pick_t rfl rfl rfl) ?_
    refine SQ.op rfl rfl rfl (r_move rfl rfl) ?_
    refine SQ.skip rfl rfl rfl rfl rfl rfl rfl ?_
    refine SQ.skip rfl rfl rfl rfl rfl rfl rfl ?_
    refine SQ.op rfl rfl rfl (r_pick_t rfl rfl rfl) ?_
    refine SQ.op rfl rfl rfl (r_assign rfl rfl) ?_
    refine SQ.nil ?_
    refine C.code ?_
    refine W.cond_t rfl ?_
    refine W.seq ?_
    refine W.region ?_
    refine SQ.op rfl rfl rfl (r_assign rfl rfl) ?_
    refine SQ.nil ?_
    refine C.code ?_
    refine W.ret ?_
    refine C.ret1 Tryd.results44 rfl ?_
    refine ⟨ret_int ?_, hEw⟩
    unfold partsR
    simp_all
  · intro hb1_2
    try simp only [decide_eq_true_eq, decide_eq_false_iff_not, Bool.not_eq_true', Bool.not_eq_false', Bool.not_true, Bool.not_false, Bool.not_eq_true, Bool.not_eq_false] at hb1_2
    refine SQ.guarded rfl rfl rfl rfl rfl ?_
    refine SQ.op rfl rfl rfl (r_move rfl rfl) ?_
    refine SQ.guarded rfl rfl rfl rfl rfl ?_
    refine SQ.op rfl rfl rfl (r_eqlInt rfl rfl rfl) ?_
    refine SQ.op rfl rfl rfl (r_pick_f rfl rfl rfl) ?_
    refine SQ.opB rfl rfl rfl (r_move rfl rfl) ?_ ?_
    · intro hb1_6
      try simp only [decide_eq_true_eq, decide_eq_false_iff_not, Bool.not_eq_true', Bool.not_eq_false', Bool.not_true, Bool.not_false, Bool.not_eq_true, Bool.not_eq_false] at hb1_6
      refine SQ.skip rfl rfl rfl rfl rfl rfl rfl ?_
      refine SQ.skip rfl rfl rfl rfl rfl rfl rfl ?_
      refine SQ.op rfl rfl rfl (r_pick_t rfl rfl rfl) ?_
      refine SQ.op rfl rfl rfl (r_assign rfl rfl) ?_
      refine SQ.nil ?_
      refine C.code ?_
      refine W.cond_t rfl ?_
      refine W.seq ?_
      refine W.region ?_
      refine SQ.op rfl rfl rfl (r_assign rfl rfl) ?_
      refine SQ.nil ?_
      refine C.code ?_
      refine W.ret ?_
      refine C.ret1 Tryd.results44 rfl ?_
      refine ⟨ret_int ?_, hEw⟩
      unfold partsR
      simp_all
    · intro hb1_6
      try simp only [decide_eq_true_eq, decide_eq_false_iff_not, Bool.not_eq_true', Bool.not_eq_false', Bool.not_true, Bool.not_false, Bool.not_eq_true, Bool.not_eq_false] at hb1_6
      refine SQ.guarded rfl rfl rfl rfl rfl ?_
      refine SQ.op rfl rfl rfl (r_move rfl rfl) ?_
      refine SQ.guarded rfl rfl rfl rfl rfl ?_
      refine SQ.op rfl rfl rfl (r_eqlInt rfl rfl rfl) ?_
      refine SQ.op rfl rfl rfl (r_pick_f rfl rfl rfl) ?_
      refine SQ.op rfl rfl rfl (r_assign rfl rfl) ?_
      refine SQ.nil ?_
      refine C.code ?_
      refine W.cond rfl ?_ ?_
      · intro hc1
        try simp only [decide_eq_true_eq, decide_eq_false_iff_not, Bool.not_eq_true', Bool.not_eq_false', Bool.not_true, Bool.not_false, Bool.not_eq_true, Bool.not_eq_false] at hc1
        refine W.seq ?_
        refine W.region ?_
        refine SQ.op rfl rfl rfl (r_assign rfl rfl) ?_
        refine SQ.nil ?_
        refine C.code ?_
        refine W.ret ?_
        refine C.ret1 Tryd.results44 rfl ?_
        refine ⟨ret_int ?_, hEw⟩
        unfold partsR
        simp_all
      · intro hc1
        try simp only [decide_eq_true_eq, decide_eq_false_iff_not, Bool.not_eq_true', Bool.not_eq_false', Bool.not_true, Bool.not_false, Bool.not_eq_true, Bool.not_eq_false] at hc1
        refine W.seq ?_
        refine W.region ?_
        refine SQ.op rfl rfl rfl (r_move rfl rfl) ?_
        refine SQ.op rfl rfl rfl (r_eqlInt rfl rfl rfl) ?_
        refine SQ.op rfl rfl rfl (r_assign rfl rfl) ?_
        refine SQ.nil ?_
        refine C.code ?_
        refine W.cond rfl ?_ ?_
        · intro hc2
          try simp only [decide_eq_true_eq, decide_eq_false_iff_not, Bool.not_eq_true', Bool.not_eq_false', Bool.not_true, Bool.not_false, Bool.not_eq_true, Bool.not_eq_false] at hc2
          refine W.seq ?_
          refine W.region ?_
          refine SQ.op rfl rfl rfl (r_assign rfl rfl) ?_
          refine SQ.nil ?_
          refine C.code ?_
          refine W.ret ?_
          refine C.ret1 Tryd.results44 rfl ?_
          refine ⟨ret_int ?_, hEw⟩
          unfold partsR
          simp_all
        · intro hc2
          try simp only [decide_eq_true_eq, decide_eq_false_iff_not, Bool.not_eq_true', Bool.not_eq_false', Bool.not_true, Bool.not_false, Bool.not_eq_true, Bool.not_eq_false] at hc2
          refine W.skip ?_
          refine C.code ?_
          refine W.seq ?_
          refine W.seq ?_
          refine W.region ?_
          have hsz3 := hEw.size
          refine SQ.call rfl rfl rfl (rc_func rfl rfl Tryd.call42) (pairs_spec _) ?_
          rintro _ wv4 ⟨bp, rfl, hP, hgp, hE5⟩
          refine ⟨_, rfl, ?_⟩
          replace hEw := hEw.ext hE5
          refine SQ.op rfl rfl rfl (r_move rfl rfl) ?_
          refine SQ.call rfl rfl rfl (rc_func rfl rfl Tryd.call46) (find_spec pairsF bp 12 _ _ hP (by decide)) ?_
          rintro _ wv7 ⟨rfl, hE6⟩
          refine ⟨_, rfl, ?_⟩
          replace hEw := hEw.ext hE6
          refine SQ.op rfl rfl rfl (r_move rfl rfl) ?_
          refine SQ.op rfl rfl rfl (r_extract rfl rfl rfl) ?_
          refine SQ.op rfl rfl rfl (r_extract rfl rfl rfl) ?_
          have hsz12 := hEw.size
          refine SQ.new (v := (fun nb => .pointer (some ⟨nb, 0, none⟩))) rfl rfl rfl (r_alloc rfl Tryd.zeroValue88) ?_
          intro nb3 wv8 hge9 hlt10 hB3 hE11
          replace hEw := hEw.ext hE11
          replace hB3 : Blk wv8 nb3 _ _ := hB3
          refine SQ.storeA rfl rfl rfl rfl rfl Tryd.sizeOf88 rfl hB3 ⟨rfl, rfl⟩ ?_
          intro wv13 hS15 hK14
          have hsz16 := hK14.size
          replace hB3 : Blk wv13 _ _ _ := hS15
          clear hS15
          replace hEw := hEw.new hK14 (by intro b hb; subst hb; omega)
          refine SQ.op rfl rfl rfl (r_assign rfl rfl) ?_
          refine SQ.nil ?_
          refine C.code ?_
          refine W.seq ?_
          refine W.region ?_
          refine SQ.op rfl rfl rfl (r_move rfl rfl) ?_
          refine SQ.nil ?_
          refine C.code ?_
          refine W.cond rfl ?_ ?_
          · intro hc17
            try simp only [decide_eq_true_eq, decide_eq_false_iff_not, Bool.not_eq_true', Bool.not_eq_false', Bool.not_true, Bool.not_false, Bool.not_eq_true, Bool.not_eq_false] at hc17
            refine W.seq ?_
            refine W.region ?_
            refine SQ.op rfl rfl rfl (r_assign rfl rfl) ?_
            refine SQ.nil ?_
            refine C.code ?_
            refine W.ret ?_
            refine C.ret1 Tryd.results44 rfl ?_
            refine ⟨ret_int ?_, hEw⟩
            unfold partsR
            simp_all
          · intro hc17
            try simp only [decide_eq_true_eq, decide_eq_false_iff_not, Bool.not_eq_true', Bool.not_eq_false', Bool.not_true, Bool.not_false, Bool.not_eq_true, Bool.not_eq_false] at hc17
            refine W.skip ?_
            refine C.code ?_
            refine W.seq ?_
            refine W.seq ?_
            refine W.region ?_
            have hsz18 := hEw.size
            have hlt19 := hB3.lt
            refine SQ.call rfl rfl rfl (rc_func rfl rfl Tryd.call48) (prefixes_spec _) ?_
            rintro _ wv20 ⟨bq, rfl, hQ, hgq, hE21⟩
            refine ⟨_, rfl, ?_⟩
            replace hB3 := hB3.ext hE21
            replace hEw := hEw.ext hE21
            refine SQ.op rfl rfl rfl (r_move rfl rfl) ?_
            refine SQ.call rfl rfl rfl (rc_func rfl rfl Tryd.call46) (find_spec prefixesF bq 3 _ _ hQ (by decide)) ?_
            rintro _ wv23 ⟨rfl, hE22⟩
            refine ⟨_, rfl, ?_⟩
            replace hB3 := hB3.ext hE22
            replace hEw := hEw.ext hE22
            refine SQ.op rfl rfl rfl (r_move rfl rfl) ?_
            refine SQ.op rfl rfl rfl (r_extract rfl rfl rfl) ?_
            refine SQ.op rfl rfl rfl (r_extract rfl rfl rfl) ?_
            have hsz28 := hEw.size
            refine SQ.new (v := (fun nb => .pointer (some ⟨nb, 0, none⟩))) rfl rfl rfl (r_alloc rfl Tryd.zeroValue88) ?_
            intro nb5 wv24 hge25 hlt26 hB5 hE27
            have hlt_hB3_hB5 := Nat.lt_of_lt_of_le hB3.lt hge25
            replace hB3 := hB3.ext hE27
            replace hEw := hEw.ext hE27
            replace hB5 : Blk wv24 nb5 _ _ := hB5
            refine SQ.storeA rfl rfl rfl rfl rfl Tryd.sizeOf88 rfl hB5 ⟨rfl, rfl⟩ ?_
            intro wv29 hS31 hK30
            have hsz32 := hK30.size
            replace hB3 := hB3.kp hK30 (by omega)
            replace hB5 : Blk wv29 _ _ _ := hS31
            clear hS31
            replace hEw := hEw.new hK30 (by intro b hb; subst hb; omega)
            refine SQ.op rfl rfl rfl (r_assign rfl rfl) ?_
            refine SQ.nil ?_
            refine C.code ?_
            refine W.seq ?_
            refine W.region ?_
            refine SQ.op rfl rfl rfl (r_move rfl rfl) ?_
            refine SQ.nil ?_
            refine C.code ?_
            refine W.cond rfl ?_ ?_
            · intro hc33
              try simp only [decide_eq_true_eq, decide_eq_false_iff_not, Bool.not_eq_true', Bool.not_eq_false', Bool.not_true, Bool.not_false, Bool.not_eq_true, Bool.not_eq_false] at hc33
              refine W.seq ?_
              refine W.region ?_
              refine SQ.op rfl rfl rfl (r_assign rfl rfl) ?_
              refine SQ.nil ?_
              refine C.code ?_
              refine W.ret ?_
              refine C.ret1 Tryd.results44 rfl ?_
              refine ⟨ret_int ?_, hEw⟩
              unfold partsR
              simp_all
            · intro hc33
              try simp only [decide_eq_true_eq, decide_eq_false_iff_not, Bool.not_eq_true', Bool.not_eq_false', Bool.not_true, Bool.not_false, Bool.not_eq_true, Bool.not_eq_false] at hc33
              refine W.skip ?_
              refine C.code ?_
              refine W.seq ?_
              refine W.region ?_
              refine SQ.op rfl rfl rfl (r_assign rfl rfl) ?_
              refine SQ.nil ?_
              refine C.code ?_
              refine W.ret ?_
              refine C.ret1 Tryd.results44 rfl ?_
              refine ⟨ret_int ?_, hEw⟩
              unfold partsR
              simp_all

/-- belfry.exprs.rankOf -/
theorem rankOf_spec (o : Int) (w : World) :
    Calls Tryd.prog 63 #[.int .u8 o] w fun e w' => e = .returned (.int .i64 (rankR o)) ∧ Ext w w' := by
  refine calls_of Tryd.func63 rfl Tryd.ntmps63 rfl ?_
  have hEw := Kp.refl (fun _ => False) w
  refine W.seq ?_
  refine W.region ?_
  refine SQ.op rfl rfl rfl (r_assign rfl rfl) ?_
  refine SQ.nil ?_
  refine C.code ?_
  refine W.seq ?_
  refine W.seq ?_
  refine W.region ?_
  refine SQ.op rfl rfl rfl (r_move rfl rfl) ?_
  refine SQ.op rfl rfl rfl (r_eqlInt rfl rfl rfl) ?_
  refine SQ.nil ?_
  refine C.code ?_
  refine W.cond rfl ?_ ?_
  · intro hc1
    try simp only [decide_eq_true_eq, decide_eq_false_iff_not, Bool.not_eq_true', Bool.not_eq_false', Bool.not_true, Bool.not_false, Bool.not_eq_true, Bool.not_eq_false] at hc1
    refine W.seq ?_
    refine W.region ?_
    refine SQ.op rfl rfl rfl (r_assign rfl rfl) ?_
    refine SQ.nil ?_
    refine C.code ?_
    refine W.ret ?_
    refine C.ret1 Tryd.results63 rfl ?_
    refine ⟨ret_int ?_, hEw⟩
    unfold rankR
    simp_all
  · intro hc1
    try simp only [decide_eq_true_eq, decide_eq_false_iff_not, Bool.not_eq_true', Bool.not_eq_false', Bool.not_true, Bool.not_false, Bool.not_eq_true, Bool.not_eq_false] at hc1
    refine W.skip ?_
    refine C.code ?_
    refine W.seq ?_
    refine W.region ?_
    have hsz2 := hEw.size
    refine SQ.call rfl rfl rfl (rc_func rfl rfl Tryd.call42) (pairs_spec _) ?_
    rintro _ wv3 ⟨bp, rfl, hP, hgp, hE4⟩
    refine ⟨_, rfl, ?_⟩
    replace hEw := hEw.ext hE4
    refine SQ.op rfl rfl rfl (r_move rfl rfl) ?_
    refine SQ.call rfl rfl rfl (rc_func rfl rfl Tryd.call46) (find_spec pairsF bp 12 _ _ hP (by decide)) ?_
    rintro _ wv6 ⟨rfl, hE5⟩
    refine ⟨_, rfl, ?_⟩
    replace hEw := hEw.ext hE5
    refine SQ.op rfl rfl rfl (r_move rfl rfl) ?_
    refine SQ.op rfl rfl rfl (r_extract rfl rfl rfl) ?_
    refine SQ.op rfl rfl rfl (r_extract rfl rfl rfl) ?_
    have hsz11 := hEw.size
    refine SQ.new (v := (fun nb => .pointer (some ⟨nb, 0, none⟩))) rfl rfl rfl (r_alloc rfl Tryd.zeroValue88) ?_
    intro nb3 wv7 hge8 hlt9 hB3 hE10
    replace hEw := hEw.ext hE10
    replace hB3 : Blk wv7 nb3 _ _ := hB3
    refine SQ.storeA rfl rfl rfl rfl rfl Tryd.sizeOf88 rfl hB3 ⟨rfl, rfl⟩ ?_
    intro wv12 hS14 hK13
    have hsz15 := hK13.size
    replace hB3 : Blk wv12 _ _ _ := hS14
    clear hS14
    replace hEw := hEw.new hK13 (by intro b hb; subst hb; omega)
    refine SQ.op rfl rfl rfl (r_assign rfl rfl) ?_
    refine SQ.nil ?_
    refine C.code ?_
    refine W.seq ?_
    refine W.seq ?_
    refine W.region ?_
    refine SQ.op rfl rfl rfl (r_move rfl rfl) ?_
    refine SQ.op rfl rfl rfl (r_not rfl rfl) ?_
    refine SQ.nil ?_
    refine C.code ?_
    refine W.cond rfl ?_ ?_
    · intro hc16
      try simp only [decide_eq_true_eq, decide_eq_false_iff_not, Bool.not_eq_true', Bool.not_eq_false', Bool.not_true, Bool.not_false, Bool.not_eq_true, Bool.not_eq_false] at hc16
      refine W.region ?_
      have hsz17 := hEw.size
      have hlt18 := hB3.lt
      refine SQ.call rfl rfl rfl (rc_func rfl rfl Tryd.call48) (prefixes_spec _) ?_
      rintro _ wv19 ⟨bq, rfl, hQ, hgq, hE20⟩
      refine ⟨_, rfl, ?_⟩
      replace hB3 := hB3.ext hE20
      replace hEw := hEw.ext hE20
      refine SQ.op rfl rfl rfl (r_move rfl rfl) ?_
      refine SQ.call rfl rfl rfl (rc_func rfl rfl Tryd.call46) (find_spec prefixesF bq 3 _ _ hQ (by decide)) ?_
      rintro _ wv22 ⟨rfl, hE21⟩
      refine ⟨_, rfl, ?_⟩
      replace hB3 := hB3.ext hE21
      replace hEw := hEw.ext hE21
      refine SQ.op rfl rfl rfl (r_move rfl rfl) ?_
      refine SQ.op rfl rfl rfl (r_extract rfl rfl rfl) ?_
      refine SQ.op rfl rfl rfl (r_extract rfl rfl rfl) ?_
      refine SQ.storeA rfl rfl rfl rfl rfl Tryd.sizeOf88 rfl hB3 ⟨rfl, rfl⟩ ?_
      intro wv23 hS25 hK24
      have hsz26 := hK24.size
      replace hB3 : Blk wv23 _ _ _ := hS25
      clear hS25
      replace hEw := hEw.new hK24 (by intro b hb; subst hb; omega)
      refine SQ.nil ?_
      refine C.code ?_
      refine W.seq ?_
      refine W.region ?_
      refine SQ.op rfl rfl rfl (r_fieldAddr rfl rfl Tryd.underlying88 rfl Tryd.sizeOf3 rfl) ?_
      refine SQ.op rfl rfl rfl (r_load rfl rfl Tryd.isAgg3 (by first | exact hB3.cell rfl | assumption)) ?_
      refine SQ.op rfl rfl rfl (r_assign rfl rfl) ?_
      refine SQ.nil ?_
      refine C.code ?_
      refine W.ret ?_
      refine C.ret1 Tryd.results63 rfl ?_
      refine ⟨ret_int ?_, hEw⟩
      unfold rankR
      simp_all
    · intro hc16
      try simp only [decide_eq_true_eq, decide_eq_false_iff_not, Bool.not_eq_true', Bool.not_eq_false', Bool.not_true, Bool.not_false, Bool.not_eq_true, Bool.not_eq_false] at hc16
      refine W.skip ?_
      refine C.code ?_
      refine W.seq ?_
      refine W.region ?_
      refine SQ.op rfl rfl rfl (r_fieldAddr rfl rfl Tryd.underlying88 rfl Tryd.sizeOf3 rfl) ?_
      refine SQ.op rfl rfl rfl (r_load rfl rfl Tryd.isAgg3 (by first | exact hB3.cell rfl | assumption)) ?_
      refine SQ.op rfl rfl rfl (r_assign rfl rfl) ?_
      refine SQ.nil ?_
      refine C.code ?_
      refine W.ret ?_
      refine C.ret1 Tryd.results63 rfl ?_
      refine ⟨ret_int ?_, hEw⟩
      unfold rankR
      simp_all

/-- (*belfry.exprs.reader).must -/
theorem must_spec (r : Value) (b : Bool) (w : World) :
    Calls Tryd.prog 58 #[r, .bool b] w fun e w' => (b = true ∧ e = .returned (.tuple #[]) ∨ b = false ∧ e = .panicked [{ v := .iface 69 (.agg #[.int .i64 5]), recovered := false }]) ∧ Ext w w' := by
  refine calls_of Tryd.func58 rfl Tryd.ntmps58 rfl ?_
  have hEw := Kp.refl (fun _ => False) w
  refine W.seq ?_
  refine W.region ?_
  refine SQ.op rfl rfl rfl (r_move rfl rfl) ?_
  refine SQ.op rfl rfl rfl (r_not rfl rfl) ?_
  refine SQ.nil ?_
  refine C.code ?_
  refine W.cond rfl ?_ ?_
  · intro hc1
    try simp only [decide_eq_true_eq, decide_eq_false_iff_not, Bool.not_eq_true', Bool.not_eq_false', Bool.not_true, Bool.not_false, Bool.not_eq_true, Bool.not_eq_false] at hc1
    refine W.region ?_
    refine SQ.op rfl rfl rfl (r_build (pl := [(0, 1)]) rfl rfl Tryd.underlying69 Tryd.zeroValue69 (fun _ => by kernel_rfl) rfl rfl) ?_
    refine SQ.op rfl rfl rfl (r_makeIface rfl rfl (by kernel_rfl)) ?_
    refine SQ.panicI rfl rfl rfl ?_
    refine C.pan ?_
    exact ⟨.inr ⟨by simpa using hc1, rfl⟩, hEw⟩
  · intro hc1
    try simp only [decide_eq_true_eq, decide_eq_false_iff_not, Bool.not_eq_true', Bool.not_eq_false', Bool.not_true, Bool.not_false, Bool.not_eq_true, Bool.not_eq_false] at hc1
    refine W.skip ?_
    refine C.ret0 Tryd.results58 ?_
    exact ⟨.inl ⟨by simpa using hc1, rfl⟩, hEw⟩

/-! ### What is worked out: trees -/
inductive Ex where
  | mk (op n : Int) (nm : ByteArray) (args : List Ex)
def Ex.op : Ex → Int | .mk o _ _ _ => o
def Ex.n : Ex → Int | .mk _ n _ _ => n
def Ex.nm : Ex → ByteArray | .mk _ _ s _ => s
def Ex.args : Ex → List Ex | .mk _ _ _ l => l
/-- The cells of a tree whose parts lie at A. -/
def Ex.cs (t : Ex) (A : Option Addr) (c : Nat) : List Value := [.int .u8 t.op, .int .i64 t.n, .string t.nm, .slice A t.args.length c]
def exNone : Ex := .mk 0 0 ⟨#[]⟩ []
structure Nd where
  t : Ex
  A : Option Addr
  c : Nat
def Nd.cs (x : Nd) : List Value := x.t.cs x.A x.c
/-- The tree's parts lie in memory, in blocks of S. -/
inductive Tr (w : World) (S : Nat → Prop) : Ex → Option Addr → Nat → Prop where
  | nil {op n : Int} {nm : ByteArray} {A : Option Addr} {c : Nat} (hn : nm.size ≤ 1000000000000 ∧ -9223372036854775808 ≤ n ∧ n ≤ 9223372036854775807) : Tr w S (.mk op n nm []) A c
  | node {op n : Int} {nm : ByteArray} {b o c : Nat} (hn : nm.size ≤ 1000000000000 ∧ -9223372036854775808 ≤ n ∧ n ≤ 9223372036854775807) (xs : List Nd) (hl : xs.length ≤ 1000000000000) (hS : S b) (hC : Cl w b o (xs.flatMap Nd.cs)) (hx : ∀ x, x ∈ xs → Tr w S x.t x.A x.c) : Tr w S (.mk op n nm (xs.map Nd.t)) (some ⟨b, o, none⟩) c
theorem Tr.kp {w w' : World} {S X : Nat → Prop} {t : Ex} {A : Option Addr} {c : Nat} (h : Tr w S t A c) (hK : Kp X w w') (hx : ∀ b, X b → ¬ S b) : Tr w' S t A c := by
  induction h with
  | nil hn => exact .nil hn
  | node hn xs hl hS hC _ ih => exact .node hn xs hl hS (hC.kp hK (fun hX => hx _ hX hS)) ih
theorem Tr.ext {w w' : World} {S : Nat → Prop} {t : Ex} {A : Option Addr} {c : Nat} (h : Tr w S t A c) (hE : Ext w w') : Tr w' S t A c := h.kp hE (fun _ h => h.elim)
theorem Tr.mono {w : World} {S S' : Nat → Prop} {t : Ex} {A : Option Addr} {c : Nat} (h : Tr w S t A c) (hs : ∀ b, S b → S' b) : Tr w S' t A c := by
  induction h with
  | nil hn => exact .nil hn
  | node hn xs hl hS hC _ ih => exact .node hn xs hl (hs _ hS) hC ih
theorem Tr.child {w : World} {S : Nat → Prop} {t : Ex} {A : Option Addr} {c i : Nat} (h : Tr w S t A c) (hi : i < t.args.length) :
    ∃ (b o : Nat) (x : Nd), A = some ⟨b, o, none⟩ ∧ t.args[i]? = some x.t ∧ Cl w b (o + i * 4) (x.t.cs x.A x.c) ∧ Tr w S x.t x.A x.c ∧ S b := by
  cases h with
  | nil hn => simp [Ex.args] at hi
  | node hn xs hl hS hC hx =>
    simp only [Ex.args, List.length_map] at hi
    have hg := List.getElem?_eq_getElem hi
    refine ⟨_, _, xs[i], rfl, by simp only [Ex.args, List.getElem?_map, hg, Option.map_some], ?_, hx _ (List.getElem_mem hi), hS⟩
    exact hC.sub (g := Nd.cs) (z := 4) (fun _ => rfl) hg
theorem Tr.nm {w : World} {S : Nat → Prop} {t : Ex} {A : Option Addr} {c : Nat} (h : Tr w S t A c) : t.nm.size ≤ 1000000000000 := by
  cases h with
  | nil hn => exact hn.1
  | node hn _ _ _ _ _ => exact hn.1
theorem Tr.n {w : World} {S : Nat → Prop} {t : Ex} {A : Option Addr} {c : Nat} (h : Tr w S t A c) : -9223372036854775808 ≤ t.n ∧ t.n ≤ 9223372036854775807 := by
  cases h with
  | nil hn => exact hn.2
  | node hn _ _ _ _ _ => exact hn.2
theorem Tr.len {w : World} {S : Nat → Prop} {t : Ex} {A : Option Addr} {c : Nat} (h : Tr w S t A c) : t.args.length ≤ 1000000000000 := by
  cases h with
  | nil hn => simp [Ex.args]
  | node _ xs hl _ _ _ => simpa [Ex.args] using hl
theorem Ex.child_lt {t x : Ex} {i : Nat} (h : t.args[i]? = some x) : SizeOf.sizeOf x < SizeOf.sizeOf t := by
  cases t with
  | mk o n s l =>
    have := List.sizeOf_lt_of_mem (List.mem_of_getElem? h)
    simp only [Ex.args] at this
    simp only [Ex.mk.sizeOf_spec]; omega
/-- May it be, with so many parts left? -/
def foldC (f : Ex → Int → Bool × Int) : List Ex → Int → Bool × Int
  | [], left => (true, left)
  | x :: r, left => if (f x left).1 = true then foldC f r (f x left).2 else (false, (f x left).2)
def checkR : Nat → Ex → Int → Bool × Int
  | 0, _, left => (false, left - 1)
  | d + 1, t, left =>
    if left - 1 < 0 ∨ partsR t.op ≠ (t.args.length : Int) then (false, left - 1)
    else if t.op = 1 then (decide (0 ≤ t.n) && decide (t.nm = ⟨#[]⟩), left - 1)
    else if t.op = 2 then ((decide (t.n = 0) || decide (t.n = 1)) && decide (t.nm = ⟨#[]⟩), left - 1)
    else if t.op = 3 then (decide (t.n = 0) && nameB t.nm, left - 1)
    else if (foldC (checkR d) t.args (left - 1)).1 = true then (decide (t.n = 0) && decide (t.nm = ⟨#[]⟩), (foldC (checkR d) t.args (left - 1)).2) else (false, (foldC (checkR d) t.args (left - 1)).2)
def checkB (t : Ex) : Bool := (checkR 32 t 200).1
theorem foldC_range {f : Ex → Int → Bool × Int} (hf : ∀ x a, 0 ≤ a → (f x a).2 ≤ a ∧ -1 ≤ (f x a).2 ∧ ((f x a).1 = true → 0 ≤ (f x a).2)) : ∀ l a, 0 ≤ a → (foldC f l a).2 ≤ a ∧ -1 ≤ (foldC f l a).2 ∧ ((foldC f l a).1 = true → 0 ≤ (foldC f l a).2)
  | [], a, ha => ⟨Int.le_refl _, by simp [foldC]; omega, fun _ => ha⟩
  | x :: r, a, ha => by
    obtain ⟨h1, h2, h3⟩ := hf x a ha
    unfold foldC
    split
    · rename_i h
      obtain ⟨k1, k2, k3⟩ := foldC_range hf r (f x a).2 (h3 h)
      exact ⟨by omega, k2, k3⟩
    · exact ⟨h1, h2, by simp⟩
theorem checkR_range : ∀ d t a, 0 ≤ a → (checkR d t a).2 ≤ a ∧ -1 ≤ (checkR d t a).2 ∧ ((checkR d t a).1 = true → 0 ≤ (checkR d t a).2)
  | 0, t, a, ha => ⟨by simp [checkR]; omega, by simp [checkR]; omega, by simp [checkR]⟩
  | d + 1, t, a, ha => by
    unfold checkR
    split
    · exact ⟨by dsimp only; omega, by dsimp only; omega, by simp⟩
    rename_i h
    have h0 : 0 ≤ a - 1 := by omega
    repeat' split
    all_goals first
      | exact ⟨by dsimp only; omega, by dsimp only; omega, fun _ => h0⟩
      | skip
    all_goals
      obtain ⟨k1, k2, k3⟩ := foldC_range (checkR_range d) t.args (a - 1) h0
    · exact ⟨by dsimp only; omega, k2, fun _ => k3 (by assumption)⟩
    · exact ⟨by dsimp only; omega, k2, by simp⟩
theorem foldC_step {f : Ex → Int → Bool × Int} : ∀ (l : List Ex) (i : Nat) (a : Int) (x : Ex), (foldC f (l.take i) a).1 = true → l[i]? = some x →
    foldC f (l.take (i + 1)) a = ((f x (foldC f (l.take i) a).2).1, (f x (foldC f (l.take i) a).2).2) ∧ ((f x (foldC f (l.take i) a).2).1 = false → foldC f l a = (false, (f x (foldC f (l.take i) a).2).2))
  | [], _, _, _, _, h => by simp at h
  | y :: r, 0, a, x, _, h => by
    simp at h; subst h
    refine ⟨?_, fun hf => ?_⟩
    · simp only [List.take_succ_cons, List.take_zero, foldC]
      cases hb : (f y a).1 <;> simp
    · simp only [List.take_zero, foldC] at hf ⊢
      simp [hf]
  | y :: r, i + 1, a, x, h1, h => by
    simp only [List.take_succ_cons, foldC] at h1 ⊢
    by_cases hb : (f y a).1 = true
    · simp only [hb, if_true] at h1 ⊢
      exact foldC_step r i _ x h1 (by simpa using h)
    · simp [hb] at h1

theorem checkR_bad {d : Nat} {t : Ex} {left : Int} (h : left - 1 < 0 ∨ partsR t.op ≠ (t.args.length : Int)) : checkR (d + 1) t left = (false, left - 1) := by rw [checkR, if_pos h]
theorem checkR_int {d : Nat} {t : Ex} {left : Int} (h0 : 0 ≤ left - 1) (hp : partsR t.op = (t.args.length : Int)) (ho : t.op = 1) : checkR (d + 1) t left = (decide (0 ≤ t.n) && decide (t.nm = ⟨#[]⟩), left - 1) := by
  rw [checkR, if_neg (by omega), if_pos ho]
theorem checkR_bool {d : Nat} {t : Ex} {left : Int} (h0 : 0 ≤ left - 1) (hp : partsR t.op = (t.args.length : Int)) (ho : t.op = 2) : checkR (d + 1) t left = ((decide (t.n = 0) || decide (t.n = 1)) && decide (t.nm = ⟨#[]⟩), left - 1) := by
  rw [checkR, if_neg (by omega), if_neg (by omega), if_pos ho]
theorem checkR_name {d : Nat} {t : Ex} {left : Int} (h0 : 0 ≤ left - 1) (hp : partsR t.op = (t.args.length : Int)) (ho : t.op = 3) : checkR (d + 1) t left = (decide (t.n = 0) && nameB t.nm, left - 1) := by
  rw [checkR, if_neg (by omega), if_neg (by omega), if_neg (by omega), if_pos ho]
theorem checkR_node {d : Nat} {t : Ex} {left : Int} (h0 : 0 ≤ left - 1) (hp : partsR t.op = (t.args.length : Int)) (h1 : t.op ≠ 1) (h2 : t.op ≠ 2) (h3 : t.op ≠ 3) : checkR (d + 1) t left = if (foldC (checkR d) t.args (left - 1)).1 = true then (decide (t.n = 0) && decide (t.nm = ⟨#[]⟩), (foldC (checkR d) t.args (left - 1)).2) else (false, (foldC (checkR d) t.args (left - 1)).2) := by
  rw [checkR, if_neg (by omega), if_neg h1, if_neg h2, if_neg h3]
def CheckAt (d : Nat) : Prop := ∀ (t : Ex) (A : Option Addr) (c lb N : Nat) (left : Int) (w : World), Tr w (fun b => b < N) t A c → Blk w lb [.int .i64 left] 3 → N ≤ lb → N ≤ w.heap.size → 0 ≤ left → left ≤ 1000 →
  Calls Tryd.prog 28 #[.agg (t.cs A c).toArray, .pointer (some ⟨lb, 0, none⟩), .int .i64 (d : Int)] w fun e w' => e = .returned (.bool (checkR d t left).1) ∧ Blk w' lb [.int .i64 (checkR d t left).2] 3 ∧ Kp (fun b => b = lb) w w'

/-- belfry.exprs.check -/
theorem check_step (t : Ex) (A : Option Addr) (c d lb N : Nat) (left : Int) (w : World) (ih : ∀ d', d' < d → CheckAt d')
    (hT : Tr w (fun b => b < N) t A c) (hL : Blk w lb [.int .i64 left] 3) (hNl : N ≤ lb) (hN : N ≤ w.heap.size) (h0 : 0 ≤ left) (h1 : left ≤ 1000) (hd : d ≤ 1000) :
    Calls Tryd.prog 28 #[.agg (t.cs A c).toArray, .pointer (some ⟨lb, 0, none⟩), .int .i64 (d : Int)] w fun e w' => e = .returned (.bool (checkR d t left).1) ∧ Blk w' lb [.int .i64 (checkR d t left).2] 3 ∧ Kp (fun b => b = lb) w w' := by
  refine calls_of Tryd.func28 rfl Tryd.ntmps28 rfl ?_
  have hKw := Kp.refl (fun b => b = lb) w
  rcases d with _ | d
  · refine W.seq ?_
    refine W.region ?_
    have hsz5 := hKw.size
    refine SQ.new (v := (fun nb => .pointer (some ⟨nb, 0, none⟩))) rfl rfl rfl (r_box rfl rfl) ?_
    intro nb3 wv1 hge2 hlt3 hB3 hE4
    have hlt_hL_hB3 := Nat.lt_of_lt_of_le hL.lt hge2
    replace hT := hT.ext hE4
    replace hL := hL.ext hE4
    replace hKw := hKw.ext hE4
    replace hB3 : Blk wv1 nb3 _ _ := hB3
    refine SQ.op rfl rfl rfl (r_assign rfl rfl) ?_
    refine SQ.nil ?_
    refine C.code ?_
    refine W.seq ?_
    refine W.region ?_
    refine SQ.op rfl rfl rfl (r_move rfl rfl) ?_
    refine SQ.op rfl rfl rfl (r_nilCheck rfl rfl) ?_
    refine SQ.op rfl rfl rfl (r_load rfl rfl Tryd.isAgg3 (by first | exact hB3.cell rfl | exact hL.cell rfl | assumption)) ?_
    refine SQ.op rfl rfl rfl (r_sub rfl rfl rfl (w64 (by omega))) ?_
    refine SQ.op rfl rfl rfl (r_nilCheck rfl rfl) ?_
    refine SQ.store rfl rfl rfl rfl rfl Tryd.sizeOf3 rfl hL rfl ?_
    intro wv6 hS8 hK7
    have hsz9 := hK7.size
    replace hT := hT.kp hK7 (by intro b hb hs; omega)
    replace hB3 := hB3.kp hK7 (by omega)
    replace hL : Blk wv6 _ _ _ := hS8
    clear hS8
    replace hKw := hKw.both hK7
    refine SQ.nil ?_
    refine C.code ?_
    refine W.seq ?_
    refine W.seq ?_
    refine W.quiet mixed (by kernel_rfl) ?_
    refine QZ.op rfl rfl rfl (fun w' hE => r_move rfl rfl) ?_
    refine QZ.op rfl rfl rfl (fun w' hE => r_nilCheck rfl rfl) ?_
    refine QZ.op rfl rfl rfl (fun w' hE => r_load rfl rfl Tryd.isAgg3 (hE.cell (by first | exact hB3.cell rfl | exact hL.cell rfl | assumption))) ?_
    refine QZ.op rfl rfl rfl (fun w' hE => r_lss rfl rfl rfl) ?_
    refine QZ.opB rfl rfl rfl (fun w' hE => r_move rfl rfl) ?_ ?_
    · intro hb2_4
      try simp only [decide_eq_true_eq, decide_eq_false_iff_not, Bool.not_eq_true', Bool.not_eq_false', Bool.not_true, Bool.not_false, Bool.not_eq_true, Bool.not_eq_false] at hb2_4
      refine QZ.skip rfl rfl rfl rfl rfl rfl rfl ?_
      refine QZ.skip rfl rfl rfl rfl rfl rfl rfl ?_
      refine QZ.op rfl rfl rfl (fun w' hE => r_pick_t rfl rfl rfl) ?_
      refine QZ.op rfl rfl rfl (fun w' hE => r_move rfl rfl) ?_
      refine QZ.skip rfl rfl rfl rfl rfl rfl rfl ?_
      refine QZ.skip rfl rfl rfl rfl rfl rfl rfl ?_
      refine QZ.skip rfl rfl rfl rfl rfl rfl rfl ?_
      refine QZ.skip rfl rfl rfl rfl rfl rfl rfl ?_
      refine QZ.skip rfl rfl rfl rfl rfl rfl rfl ?_
      refine QZ.skip rfl rfl rfl rfl rfl rfl rfl ?_
      refine QZ.skip rfl rfl rfl rfl rfl rfl rfl ?_
      refine QZ.op rfl rfl rfl (fun w' hE => r_pick_t rfl rfl rfl) ?_
      refine QZ.nil ?_
      intro wv10 hE11
      replace hT := hT.ext hE11
      replace hL := hL.ext hE11
      replace hB3 := hB3.ext hE11
      replace hKw := hKw.ext hE11
      refine C.code ?_
      refine W.cond_t rfl ?_
      refine W.seq ?_
      refine W.region ?_
      refine SQ.op rfl rfl rfl (r_assign rfl rfl) ?_
      refine SQ.nil ?_
      refine C.code ?_
      refine W.ret ?_
      refine C.ret1 Tryd.results28 rfl ?_
      exact ⟨rfl, hL, hKw⟩
    · intro hb2_4
      try simp only [decide_eq_true_eq, decide_eq_false_iff_not, Bool.not_eq_true', Bool.not_eq_false', Bool.not_true, Bool.not_false, Bool.not_eq_true, Bool.not_eq_false] at hb2_4
      refine QZ.guarded rfl rfl rfl rfl rfl ?_
      refine QZ.op rfl rfl rfl (fun w' hE => r_move rfl rfl) ?_
      refine QZ.guarded rfl rfl rfl rfl rfl ?_
      refine QZ.opD true rfl rfl rfl (fun w' hE => r_lss rfl rfl rfl) rfl ?_
      refine QZ.op rfl rfl rfl (fun w' hE => r_pick_f rfl rfl rfl) ?_
      refine QZ.op rfl rfl rfl (fun w' hE => r_move rfl rfl) ?_
      refine QZ.skip rfl rfl rfl rfl rfl rfl rfl ?_
      refine QZ.skip rfl rfl rfl rfl rfl rfl rfl ?_
      refine QZ.skip rfl rfl rfl rfl rfl rfl rfl ?_
      refine QZ.skip rfl rfl rfl rfl rfl rfl rfl ?_
      refine QZ.skip rfl rfl rfl rfl rfl rfl rfl ?_
      refine QZ.skip rfl rfl rfl rfl rfl rfl rfl ?_
      refine QZ.skip rfl rfl rfl rfl rfl rfl rfl ?_
      refine QZ.op rfl rfl rfl (fun w' hE => r_pick_t rfl rfl rfl) ?_
      refine QZ.nil ?_
      intro wv12 hE13
      replace hT := hT.ext hE13
      replace hL := hL.ext hE13
      replace hB3 := hB3.ext hE13
      replace hKw := hKw.ext hE13
      refine C.code ?_
      refine W.cond_t rfl ?_
      refine W.seq ?_
      refine W.region ?_
      refine SQ.op rfl rfl rfl (r_assign rfl rfl) ?_
      refine SQ.nil ?_
      refine C.code ?_
      refine W.ret ?_
      refine C.ret1 Tryd.results28 rfl ?_
      exact ⟨rfl, hL, hKw⟩
  · refine W.seq ?_
    refine W.region ?_
    have hsz18 := hKw.size
    refine SQ.new (v := (fun nb => .pointer (some ⟨nb, 0, none⟩))) rfl rfl rfl (r_box rfl rfl) ?_
    intro nb3 wv14 hge15 hlt16 hB3 hE17
    have hlt_hL_hB3 := Nat.lt_of_lt_of_le hL.lt hge15
    replace hT := hT.ext hE17
    replace hL := hL.ext hE17
    replace hKw := hKw.ext hE17
    replace hB3 : Blk wv14 nb3 _ _ := hB3
    refine SQ.op rfl rfl rfl (r_assign rfl rfl) ?_
    refine SQ.nil ?_
    refine C.code ?_
    refine W.seq ?_
    refine W.region ?_
    refine SQ.op rfl rfl rfl (r_move rfl rfl) ?_
    refine SQ.op rfl rfl rfl (r_nilCheck rfl rfl) ?_
    refine SQ.op rfl rfl rfl (r_load rfl rfl Tryd.isAgg3 (by first | exact hB3.cell rfl | exact hL.cell rfl | assumption)) ?_
    refine SQ.op rfl rfl rfl (r_sub rfl rfl rfl (w64 (by omega))) ?_
    refine SQ.op rfl rfl rfl (r_nilCheck rfl rfl) ?_
    refine SQ.store rfl rfl rfl rfl rfl Tryd.sizeOf3 rfl hL rfl ?_
    intro wv19 hS21 hK20
    have hsz22 := hK20.size
    replace hT := hT.kp hK20 (by intro b hb hs; omega)
    replace hB3 := hB3.kp hK20 (by omega)
    replace hL : Blk wv19 _ _ _ := hS21
    clear hS21
    replace hKw := hKw.both hK20
    refine SQ.nil ?_
    refine C.code ?_
    refine W.seq ?_
    refine W.seq ?_
    refine W.quiet mixed (by kernel_rfl) ?_
    refine QZ.op rfl rfl rfl (fun w' hE => r_move rfl rfl) ?_
    refine QZ.op rfl rfl rfl (fun w' hE => r_nilCheck rfl rfl) ?_
    refine QZ.op rfl rfl rfl (fun w' hE => r_load rfl rfl Tryd.isAgg3 (hE.cell (by first | exact hB3.cell rfl | exact hL.cell rfl | assumption))) ?_
    refine QZ.op rfl rfl rfl (fun w' hE => r_lss rfl rfl rfl) ?_
    refine QZ.opB rfl rfl rfl (fun w' hE => r_move rfl rfl) ?_ ?_
    · intro hb2_4
      try simp only [decide_eq_true_eq, decide_eq_false_iff_not, Bool.not_eq_true', Bool.not_eq_false', Bool.not_true, Bool.not_false, Bool.not_eq_true, Bool.not_eq_false] at hb2_4
      refine QZ.skip rfl rfl rfl rfl rfl rfl rfl ?_
      refine QZ.skip rfl rfl rfl rfl rfl rfl rfl ?_
      refine QZ.op rfl rfl rfl (fun w' hE => r_pick_t rfl rfl rfl) ?_
      refine QZ.op rfl rfl rfl (fun w' hE => r_move rfl rfl) ?_
      refine QZ.skip rfl rfl rfl rfl rfl rfl rfl ?_
      refine QZ.skip rfl rfl rfl rfl rfl rfl rfl ?_
      refine QZ.skip rfl rfl rfl rfl rfl rfl rfl ?_
      refine QZ.skip rfl rfl rfl rfl rfl rfl rfl ?_
      refine QZ.skip rfl rfl rfl rfl rfl rfl rfl ?_
      refine QZ.skip rfl rfl rfl rfl rfl rfl rfl ?_
      refine QZ.skip rfl rfl rfl rfl rfl rfl rfl ?_
      refine QZ.op rfl rfl rfl (fun w' hE => r_pick_t rfl rfl rfl) ?_
      refine QZ.nil ?_
      intro wv23 hE24
      replace hT := hT.ext hE24
      replace hL := hL.ext hE24
      replace hB3 := hB3.ext hE24
      replace hKw := hKw.ext hE24
      refine C.code ?_
      refine W.cond_t rfl ?_
      refine W.seq ?_
      refine W.region ?_
      refine SQ.op rfl rfl rfl (r_assign rfl rfl) ?_
      refine SQ.nil ?_
      refine C.code ?_
      refine W.ret ?_
      refine C.ret1 Tryd.results28 rfl ?_
      first
        | (rw [checkR_bad (d := d) (t := t) (.inl (by omega))]; exact ⟨rfl, hL, hKw⟩)
        | (rw [checkR_bad (d := d) (t := t) (.inr (by assumption))]; exact ⟨rfl, hL, hKw⟩)
        | (rw [checkR_int (d := d) (t := t) (by omega) (by assumption) (by assumption)]; refine ⟨?_, hL, hKw⟩; simp [*])
        | (rw [checkR_bool (d := d) (t := t) (by omega) (by assumption) (by assumption)]; refine ⟨?_, hL, hKw⟩; simp [*])
        | (rw [checkR_name (d := d) (t := t) (by omega) (by assumption) (by assumption)]; refine ⟨?_, hL, hKw⟩; simp [*])
        | (rw [checkR_node (d := d) (t := t) (by omega) (by assumption) (by assumption) (by assumption) (by assumption), if_pos hf1]; refine ⟨?_, hL, hKw⟩; simp [*])
        | (rw [checkR_node (d := d) (t := t) (by omega) (by assumption) (by assumption) (by assumption) (by assumption), hst.2 (by assumption)]; refine ⟨?_, hL, hKw⟩; simp)
    · intro hb2_4
      try simp only [decide_eq_true_eq, decide_eq_false_iff_not, Bool.not_eq_true', Bool.not_eq_false', Bool.not_true, Bool.not_false, Bool.not_eq_true, Bool.not_eq_false] at hb2_4
      refine QZ.guarded rfl rfl rfl rfl rfl ?_
      refine QZ.op rfl rfl rfl (fun w' hE => r_move rfl rfl) ?_
      refine QZ.guarded rfl rfl rfl rfl rfl ?_
      refine QZ.opD false rfl rfl rfl (fun w' hE => r_lss rfl rfl rfl) (by simp; omega) ?_
      refine QZ.op rfl rfl rfl (fun w' hE => r_pick_f rfl rfl rfl) ?_
      refine QZ.op rfl rfl rfl (fun w' hE => r_move rfl rfl) ?_
      refine QZ.guarded rfl rfl rfl rfl rfl ?_
      refine QZ.op rfl rfl rfl (fun w' hE => r_fieldAddr rfl rfl Tryd.underlying25 rfl Tryd.sizeOf22 rfl) ?_
      refine QZ.guarded rfl rfl rfl rfl rfl ?_
      refine QZ.op rfl rfl rfl (fun w' hE => r_load rfl rfl Tryd.isAgg22 (hE.cell (by first | exact hB3.cell rfl | exact hL.cell rfl | assumption))) ?_
      refine QZ.guarded rfl rfl rfl rfl rfl ?_
      refine QZ.call rfl rfl rfl (fun w' hE => rc_func rfl rfl Tryd.call44) (fun w' hE => hE.calls (parts_spec _ _)) ?_
      refine QZ.guarded rfl rfl rfl rfl rfl ?_
      refine QZ.op rfl rfl rfl (fun w' hE => r_fieldAddr rfl rfl Tryd.underlying25 rfl Tryd.sizeOf23 rfl) ?_
      refine QZ.guarded rfl rfl rfl rfl rfl ?_
      refine QZ.op rfl rfl rfl (fun w' hE => r_load rfl rfl Tryd.isAgg23 (hE.cell (by first | exact hB3.cell rfl | exact hL.cell rfl | assumption))) ?_
      refine QZ.guarded rfl rfl rfl rfl rfl ?_
      refine QZ.op rfl rfl rfl (fun w' hE => r_lenSlice rfl rfl Tryd.underlying23) ?_
      refine QZ.guarded rfl rfl rfl rfl rfl ?_
      refine QZ.op rfl rfl rfl (fun w' hE => r_neqInt rfl rfl rfl) ?_
      refine QZ.op rfl rfl rfl (fun w' hE => r_pick_f rfl rfl rfl) ?_
      refine QZ.nil ?_
      intro wv25 hE26
      replace hT := hT.ext hE26
      replace hL := hL.ext hE26
      replace hB3 := hB3.ext hE26
      replace hKw := hKw.ext hE26
      refine C.code ?_
      refine W.cond rfl ?_ ?_
      · intro hc27
        try simp only [decide_eq_true_eq, decide_eq_false_iff_not, Bool.not_eq_true', Bool.not_eq_false', Bool.not_true, Bool.not_false, Bool.not_eq_true, Bool.not_eq_false] at hc27
        refine W.seq ?_
        refine W.region ?_
        refine SQ.op rfl rfl rfl (r_assign rfl rfl) ?_
        refine SQ.nil ?_
        refine C.code ?_
        refine W.ret ?_
        refine C.ret1 Tryd.results28 rfl ?_
        first
          | (rw [checkR_bad (d := d) (t := t) (.inl (by omega))]; exact ⟨rfl, hL, hKw⟩)
          | (rw [checkR_bad (d := d) (t := t) (.inr (by assumption))]; exact ⟨rfl, hL, hKw⟩)
          | (rw [checkR_int (d := d) (t := t) (by omega) (by assumption) (by assumption)]; refine ⟨?_, hL, hKw⟩; simp [*])
          | (rw [checkR_bool (d := d) (t := t) (by omega) (by assumption) (by assumption)]; refine ⟨?_, hL, hKw⟩; simp [*])
          | (rw [checkR_name (d := d) (t := t) (by omega) (by assumption) (by assumption)]; refine ⟨?_, hL, hKw⟩; simp [*])
          | (rw [checkR_node (d := d) (t := t) (by omega) (by assumption) (by assumption) (by assumption) (by assumption), if_pos hf1]; refine ⟨?_, hL, hKw⟩; simp [*])
          | (rw [checkR_node (d := d) (t := t) (by omega) (by assumption) (by assumption) (by assumption) (by assumption), hst.2 (by assumption)]; refine ⟨?_, hL, hKw⟩; simp)
      · intro hc27
        try simp only [decide_eq_true_eq, decide_eq_false_iff_not, Bool.not_eq_true', Bool.not_eq_false', Bool.not_true, Bool.not_false, Bool.not_eq_true, Bool.not_eq_false] at hc27
        refine W.skip ?_
        refine C.code ?_
        refine W.seq ?_
        refine W.seq ?_
        refine W.region ?_
        refine SQ.op rfl rfl rfl (r_fieldAddr rfl rfl Tryd.underlying25 rfl Tryd.sizeOf22 rfl) ?_
        refine SQ.op rfl rfl rfl (r_load rfl rfl Tryd.isAgg22 (by first | exact hB3.cell rfl | exact hL.cell rfl | assumption)) ?_
        refine SQ.nil ?_
        refine C.code ?_
        refine W.block ?_
        refine W.seq ?_
        refine W.region ?_
        refine SQ.op rfl rfl rfl (r_eqlInt rfl rfl rfl) ?_
        refine SQ.op rfl rfl rfl (r_assign rfl rfl) ?_
        refine SQ.nil ?_
        refine C.code ?_
        refine W.cond rfl ?_ ?_
        · intro hc28
          try simp only [decide_eq_true_eq, decide_eq_false_iff_not, Bool.not_eq_true', Bool.not_eq_false', Bool.not_true, Bool.not_false, Bool.not_eq_true, Bool.not_eq_false] at hc28
          refine W.seq ?_
          refine W.region ?_
          refine SQ.op rfl rfl rfl (r_fieldAddr rfl rfl Tryd.underlying25 rfl Tryd.sizeOf2 rfl) ?_
          refine SQ.op rfl rfl rfl (r_load rfl rfl Tryd.isAgg2 (by first | exact hB3.cell rfl | exact hL.cell rfl | assumption)) ?_
          refine SQ.op rfl rfl rfl (r_geq rfl rfl rfl) ?_
          refine SQ.opB rfl rfl rfl (r_move rfl rfl) ?_ ?_
          · intro hb6_3
            try simp only [decide_eq_true_eq, decide_eq_false_iff_not, Bool.not_eq_true', Bool.not_eq_false', Bool.not_true, Bool.not_false, Bool.not_eq_true, Bool.not_eq_false] at hb6_3
            refine SQ.guarded rfl rfl rfl rfl rfl ?_
            refine SQ.op rfl rfl rfl (r_fieldAddr rfl rfl Tryd.underlying25 rfl Tryd.sizeOf9 rfl) ?_
            refine SQ.guarded rfl rfl rfl rfl rfl ?_
            refine SQ.op rfl rfl rfl (r_load rfl rfl Tryd.isAgg9 (by first | exact hB3.cell rfl | exact hL.cell rfl | assumption)) ?_
            refine SQ.guarded rfl rfl rfl rfl rfl ?_
            refine SQ.op rfl rfl rfl (r_eqlStr rfl rfl rfl) ?_
            refine SQ.op rfl rfl rfl (r_pick_t rfl rfl rfl) ?_
            refine SQ.op rfl rfl rfl (r_assign rfl rfl) ?_
            refine SQ.nil ?_
            refine C.code ?_
            refine W.ret ?_
            refine C.ret1 Tryd.results28 rfl ?_
            first
              | (rw [checkR_bad (d := d) (t := t) (.inl (by omega))]; exact ⟨rfl, hL, hKw⟩)
              | (rw [checkR_bad (d := d) (t := t) (.inr (by assumption))]; exact ⟨rfl, hL, hKw⟩)
              | (rw [checkR_int (d := d) (t := t) (by omega) (by assumption) (by assumption)]; refine ⟨?_, hL, hKw⟩; simp [*])
              | (rw [checkR_bool (d := d) (t := t) (by omega) (by assumption) (by assumption)]; refine ⟨?_, hL, hKw⟩; simp [*])
              | (rw [checkR_name (d := d) (t := t) (by omega) (by assumption) (by assumption)]; refine ⟨?_, hL, hKw⟩; simp [*])
              | (rw [checkR_node (d := d) (t := t) (by omega) (by assumption) (by assumption) (by assumption) (by assumption), if_pos hf1]; refine ⟨?_, hL, hKw⟩; simp [*])
              | (rw [checkR_node (d := d) (t := t) (by omega) (by assumption) (by assumption) (by assumption) (by assumption), hst.2 (by assumption)]; refine ⟨?_, hL, hKw⟩; simp)
          · intro hb6_3
            try simp only [decide_eq_true_eq, decide_eq_false_iff_not, Bool.not_eq_true', Bool.not_eq_false', Bool.not_true, Bool.not_false, Bool.not_eq_true, Bool.not_eq_false] at hb6_3
            refine SQ.skip rfl rfl rfl rfl rfl rfl rfl ?_
            refine SQ.skip rfl rfl rfl rfl rfl rfl rfl ?_
            refine SQ.skip rfl rfl rfl rfl rfl rfl rfl ?_
            refine SQ.op rfl rfl rfl (r_pick_f rfl rfl rfl) ?_
            refine SQ.op rfl rfl rfl (r_assign rfl rfl) ?_
            refine SQ.nil ?_
            refine C.code ?_
            refine W.ret ?_
            refine C.ret1 Tryd.results28 rfl ?_
            first
              | (rw [checkR_bad (d := d) (t := t) (.inl (by omega))]; exact ⟨rfl, hL, hKw⟩)
              | (rw [checkR_bad (d := d) (t := t) (.inr (by assumption))]; exact ⟨rfl, hL, hKw⟩)
              | (rw [checkR_int (d := d) (t := t) (by omega) (by assumption) (by assumption)]; refine ⟨?_, hL, hKw⟩; simp [*])
              | (rw [checkR_bool (d := d) (t := t) (by omega) (by assumption) (by assumption)]; refine ⟨?_, hL, hKw⟩; simp [*])
              | (rw [checkR_name (d := d) (t := t) (by omega) (by assumption) (by assumption)]; refine ⟨?_, hL, hKw⟩; simp [*])
              | (rw [checkR_node (d := d) (t := t) (by omega) (by assumption) (by assumption) (by assumption) (by assumption), if_pos hf1]; refine ⟨?_, hL, hKw⟩; simp [*])
              | (rw [checkR_node (d := d) (t := t) (by omega) (by assumption) (by assumption) (by assumption) (by assumption), hst.2 (by assumption)]; refine ⟨?_, hL, hKw⟩; simp)
        · intro hc28
          try simp only [decide_eq_true_eq, decide_eq_false_iff_not, Bool.not_eq_true', Bool.not_eq_false', Bool.not_true, Bool.not_false, Bool.not_eq_true, Bool.not_eq_false] at hc28
          refine W.seq ?_
          refine W.region ?_
          refine SQ.op rfl rfl rfl (r_eqlInt rfl rfl rfl) ?_
          refine SQ.op rfl rfl rfl (r_assign rfl rfl) ?_
          refine SQ.nil ?_
          refine C.code ?_
          refine W.cond rfl ?_ ?_
          · intro hc29
            try simp only [decide_eq_true_eq, decide_eq_false_iff_not, Bool.not_eq_true', Bool.not_eq_false', Bool.not_true, Bool.not_false, Bool.not_eq_true, Bool.not_eq_false] at hc29
            refine W.seq ?_
            refine W.region ?_
            refine SQ.op rfl rfl rfl (r_fieldAddr rfl rfl Tryd.underlying25 rfl Tryd.sizeOf2 rfl) ?_
            refine SQ.op rfl rfl rfl (r_load rfl rfl Tryd.isAgg2 (by first | exact hB3.cell rfl | exact hL.cell rfl | assumption)) ?_
            refine SQ.op rfl rfl rfl (r_eqlInt rfl rfl rfl) ?_
            refine SQ.opB rfl rfl rfl (r_move rfl rfl) ?_ ?_
            · intro hb8_3
              try simp only [decide_eq_true_eq, decide_eq_false_iff_not, Bool.not_eq_true', Bool.not_eq_false', Bool.not_true, Bool.not_false, Bool.not_eq_true, Bool.not_eq_false] at hb8_3
              refine SQ.skip rfl rfl rfl rfl rfl rfl rfl ?_
              refine SQ.skip rfl rfl rfl rfl rfl rfl rfl ?_
              refine SQ.skip rfl rfl rfl rfl rfl rfl rfl ?_
              refine SQ.op rfl rfl rfl (r_pick_t rfl rfl rfl) ?_
              refine SQ.op rfl rfl rfl (r_move rfl rfl) ?_
              refine SQ.guarded rfl rfl rfl rfl rfl ?_
              refine SQ.op rfl rfl rfl (r_fieldAddr rfl rfl Tryd.underlying25 rfl Tryd.sizeOf9 rfl) ?_
              refine SQ.guarded rfl rfl rfl rfl rfl ?_
              refine SQ.op rfl rfl rfl (r_load rfl rfl Tryd.isAgg9 (by first | exact hB3.cell rfl | exact hL.cell rfl | assumption)) ?_
              refine SQ.guarded rfl rfl rfl rfl rfl ?_
              refine SQ.op rfl rfl rfl (r_eqlStr rfl rfl rfl) ?_
              refine SQ.op rfl rfl rfl (r_pick_t rfl rfl rfl) ?_
              refine SQ.op rfl rfl rfl (r_assign rfl rfl) ?_
              refine SQ.nil ?_
              refine C.code ?_
              refine W.ret ?_
              refine C.ret1 Tryd.results28 rfl ?_
              first
                | (rw [checkR_bad (d := d) (t := t) (.inl (by omega))]; exact ⟨rfl, hL, hKw⟩)
                | (rw [checkR_bad (d := d) (t := t) (.inr (by assumption))]; exact ⟨rfl, hL, hKw⟩)
                | (rw [checkR_int (d := d) (t := t) (by omega) (by assumption) (by assumption)]; refine ⟨?_, hL, hKw⟩; simp [*])
                | (rw [checkR_bool (d := d) (t := t) (by omega) (by assumption) (by assumption)]; refine ⟨?_, hL, hKw⟩; simp [*])
                | (rw [checkR_name (d := d) (t := t) (by omega) (by assumption) (by assumption)]; refine ⟨?_, hL, hKw⟩; simp [*])
                | (rw [checkR_node (d := d) (t := t) (by omega) (by assumption) (by assumption) (by assumption) (by assumption), if_pos hf1]; refine ⟨?_, hL, hKw⟩; simp [*])
                | (rw [checkR_node (d := d) (t := t) (by omega) (by assumption) (by assumption) (by assumption) (by assumption), hst.2 (by assumption)]; refine ⟨?_, hL, hKw⟩; simp)
            · intro hb8_3
              try simp only [decide_eq_true_eq, decide_eq_false_iff_not, Bool.not_eq_true', Bool.not_eq_false', Bool.not_true, Bool.not_false, Bool.not_eq_true, Bool.not_eq_false] at hb8_3
              refine SQ.guarded rfl rfl rfl rfl rfl ?_
              refine SQ.op rfl rfl rfl (r_fieldAddr rfl rfl Tryd.underlying25 rfl Tryd.sizeOf2 rfl) ?_
              refine SQ.guarded rfl rfl rfl rfl rfl ?_
              refine SQ.op rfl rfl rfl (r_load rfl rfl Tryd.isAgg2 (by first | exact hB3.cell rfl | exact hL.cell rfl | assumption)) ?_
              refine SQ.guarded rfl rfl rfl rfl rfl ?_
              refine SQ.op rfl rfl rfl (r_eqlInt rfl rfl rfl) ?_
              refine SQ.op rfl rfl rfl (r_pick_f rfl rfl rfl) ?_
              refine SQ.opB rfl rfl rfl (r_move rfl rfl) ?_ ?_
              · intro hb8_8
                try simp only [decide_eq_true_eq, decide_eq_false_iff_not, Bool.not_eq_true', Bool.not_eq_false', Bool.not_true, Bool.not_false, Bool.not_eq_true, Bool.not_eq_false] at hb8_8
                refine SQ.guarded rfl rfl rfl rfl rfl ?_
                refine SQ.op rfl rfl rfl (r_fieldAddr rfl rfl Tryd.underlying25 rfl Tryd.sizeOf9 rfl) ?_
                refine SQ.guarded rfl rfl rfl rfl rfl ?_
                refine SQ.op rfl rfl rfl (r_load rfl rfl Tryd.isAgg9 (by first | exact hB3.cell rfl | exact hL.cell rfl | assumption)) ?_
                refine SQ.guarded rfl rfl rfl rfl rfl ?_
                refine SQ.op rfl rfl rfl (r_eqlStr rfl rfl rfl) ?_
                refine SQ.op rfl rfl rfl (r_pick_t rfl rfl rfl) ?_
                refine SQ.op rfl rfl rfl (r_assign rfl rfl) ?_
                refine SQ.nil ?_
                refine C.code ?_
                refine W.ret ?_
                refine C.ret1 Tryd.results28 rfl ?_
                first
                  | (rw [checkR_bad (d := d) (t := t) (.inl (by omega))]; exact ⟨rfl, hL, hKw⟩)
                  | (rw [checkR_bad (d := d) (t := t) (.inr (by assumption))]; exact ⟨rfl, hL, hKw⟩)
                  | (rw [checkR_int (d := d) (t := t) (by omega) (by assumption) (by assumption)]; refine ⟨?_, hL, hKw⟩; simp [*])
                  | (rw [checkR_bool (d := d) (t := t) (by omega) (by assumption) (by assumption)]; refine ⟨?_, hL, hKw⟩; simp [*])
                  | (rw [checkR_name (d := d) (t := t) (by omega) (by assumption) (by assumption)]; refine ⟨?_, hL, hKw⟩; simp [*])
                  | (rw [checkR_node (d := d) (t := t) (by omega) (by assumption) (by assumption) (by assumption) (by assumption), if_pos hf1]; refine ⟨?_, hL, hKw⟩; simp [*])
                  | (rw [checkR_node (d := d) (t := t) (by omega) (by assumption) (by assumption) (by assumption) (by assumption), hst.2 (by assumption)]; refine ⟨?_, hL, hKw⟩; simp)
              · intro hb8_8
                try simp only [decide_eq_true_eq, decide_eq_false_iff_not, Bool.not_eq_true', Bool.not_eq_false', Bool.not_true, Bool.not_false, Bool.not_eq_true, Bool.not_eq_false] at hb8_8
                refine SQ.skip rfl rfl rfl rfl rfl rfl rfl ?_
                refine SQ.skip rfl rfl rfl rfl rfl rfl rfl ?_
                refine SQ.skip rfl rfl rfl rfl rfl rfl rfl ?_
                refine SQ.op rfl rfl rfl (r_pick_f rfl rfl rfl) ?_
                refine SQ.op rfl rfl rfl (r_assign rfl rfl) ?_
                refine SQ.nil ?_
                refine C.code ?_
                refine W.ret ?_
                refine C.ret1 Tryd.results28 rfl ?_
                first
                  | (rw [checkR_bad (d := d) (t := t) (.inl (by omega))]; exact ⟨rfl, hL, hKw⟩)
                  | (rw [checkR_bad (d := d) (t := t) (.inr (by assumption))]; exact ⟨rfl, hL, hKw⟩)
                  | (rw [checkR_int (d := d) (t := t) (by omega) (by assumption) (by assumption)]; refine ⟨?_, hL, hKw⟩; simp [*])
                  | (rw [checkR_bool (d := d) (t := t) (by omega) (by assumption) (by assumption)]; refine ⟨?_, hL, hKw⟩; simp [*])
                  | (rw [checkR_name (d := d) (t := t) (by omega) (by assumption) (by assumption)]; refine ⟨?_, hL, hKw⟩; simp [*])
                  | (rw [checkR_node (d := d) (t := t) (by omega) (by assumption) (by assumption) (by assumption) (by assumption), if_pos hf1]; refine ⟨?_, hL, hKw⟩; simp [*])
                  | (rw [checkR_node (d := d) (t := t) (by omega) (by assumption) (by assumption) (by assumption) (by assumption), hst.2 (by assumption)]; refine ⟨?_, hL, hKw⟩; simp)
          · intro hc29
            try simp only [decide_eq_true_eq, decide_eq_false_iff_not, Bool.not_eq_true', Bool.not_eq_false', Bool.not_true, Bool.not_false, Bool.not_eq_true, Bool.not_eq_false] at hc29
            refine W.seq ?_
            refine W.region ?_
            refine SQ.op rfl rfl rfl (r_eqlInt rfl rfl rfl) ?_
            refine SQ.op rfl rfl rfl (r_assign rfl rfl) ?_
            refine SQ.nil ?_
            refine C.code ?_
            refine W.cond rfl ?_ ?_
            · intro hc30
              try simp only [decide_eq_true_eq, decide_eq_false_iff_not, Bool.not_eq_true', Bool.not_eq_false', Bool.not_true, Bool.not_false, Bool.not_eq_true, Bool.not_eq_false] at hc30
              refine W.seq ?_
              refine W.region ?_
              refine SQ.op rfl rfl rfl (r_fieldAddr rfl rfl Tryd.underlying25 rfl Tryd.sizeOf2 rfl) ?_
              refine SQ.op rfl rfl rfl (r_load rfl rfl Tryd.isAgg2 (by first | exact hB3.cell rfl | exact hL.cell rfl | assumption)) ?_
              refine SQ.op rfl rfl rfl (r_eqlInt rfl rfl rfl) ?_
              refine SQ.opB rfl rfl rfl (r_move rfl rfl) ?_ ?_
              · intro hb10_3
                try simp only [decide_eq_true_eq, decide_eq_false_iff_not, Bool.not_eq_true', Bool.not_eq_false', Bool.not_true, Bool.not_false, Bool.not_eq_true, Bool.not_eq_false] at hb10_3
                refine SQ.guarded rfl rfl rfl rfl rfl ?_
                refine SQ.op rfl rfl rfl (r_fieldAddr rfl rfl Tryd.underlying25 rfl Tryd.sizeOf9 rfl) ?_
                refine SQ.guarded rfl rfl rfl rfl rfl ?_
                refine SQ.op rfl rfl rfl (r_load rfl rfl Tryd.isAgg9 (by first | exact hB3.cell rfl | exact hL.cell rfl | assumption)) ?_
                refine SQ.guarded rfl rfl rfl rfl rfl ?_
                have hsz31 := hKw.size
                refine SQ.call rfl rfl rfl (rc_func rfl rfl Tryd.call45) (Name_spec _ hT.nm _) ?_
                rintro _ wv32 ⟨rfl, hE33⟩
                refine ⟨_, rfl, ?_⟩
                replace hT := hT.ext hE33
                replace hL := hL.ext hE33
                replace hB3 := hB3.ext hE33
                replace hKw := hKw.ext hE33
                refine SQ.op rfl rfl rfl (r_pick_t rfl rfl rfl) ?_
                refine SQ.op rfl rfl rfl (r_assign rfl rfl) ?_
                refine SQ.nil ?_
                refine C.code ?_
                refine W.ret ?_
                refine C.ret1 Tryd.results28 rfl ?_
                first
                  | (rw [checkR_bad (d := d) (t := t) (.inl (by omega))]; exact ⟨rfl, hL, hKw⟩)
                  | (rw [checkR_bad (d := d) (t := t) (.inr (by assumption))]; exact ⟨rfl, hL, hKw⟩)
                  | (rw [checkR_int (d := d) (t := t) (by omega) (by assumption) (by assumption)]; refine ⟨?_, hL, hKw⟩; simp [*])
                  | (rw [checkR_bool (d := d) (t := t) (by omega) (by assumption) (by assumption)]; refine ⟨?_, hL, hKw⟩; simp [*])
                  | (rw [checkR_name (d := d) (t := t) (by omega) (by assumption) (by assumption)]; refine ⟨?_, hL, hKw⟩; simp [*])
                  | (rw [checkR_node (d := d) (t := t) (by omega) (by assumption) (by assumption) (by assumption) (by assumption), if_pos hf1]; refine ⟨?_, hL, hKw⟩; simp [*])
                  | (rw [checkR_node (d := d) (t := t) (by omega) (by assumption) (by assumption) (by assumption) (by assumption), hst.2 (by assumption)]; refine ⟨?_, hL, hKw⟩; simp)
              · intro hb10_3
                try simp only [decide_eq_true_eq, decide_eq_false_iff_not, Bool.not_eq_true', Bool.not_eq_false', Bool.not_true, Bool.not_false, Bool.not_eq_true, Bool.not_eq_false] at hb10_3
                refine SQ.skip rfl rfl rfl rfl rfl rfl rfl ?_
                refine SQ.skip rfl rfl rfl rfl rfl rfl rfl ?_
                refine SQ.skip rfl rfl rfl rfl rfl rfl rfl ?_
                refine SQ.op rfl rfl rfl (r_pick_f rfl rfl rfl) ?_
                refine SQ.op rfl rfl rfl (r_assign rfl rfl) ?_
                refine SQ.nil ?_
                refine C.code ?_
                refine W.ret ?_
                refine C.ret1 Tryd.results28 rfl ?_
                first
                  | (rw [checkR_bad (d := d) (t := t) (.inl (by omega))]; exact ⟨rfl, hL, hKw⟩)
                  | (rw [checkR_bad (d := d) (t := t) (.inr (by assumption))]; exact ⟨rfl, hL, hKw⟩)
                  | (rw [checkR_int (d := d) (t := t) (by omega) (by assumption) (by assumption)]; refine ⟨?_, hL, hKw⟩; simp [*])
                  | (rw [checkR_bool (d := d) (t := t) (by omega) (by assumption) (by assumption)]; refine ⟨?_, hL, hKw⟩; simp [*])
                  | (rw [checkR_name (d := d) (t := t) (by omega) (by assumption) (by assumption)]; refine ⟨?_, hL, hKw⟩; simp [*])
                  | (rw [checkR_node (d := d) (t := t) (by omega) (by assumption) (by assumption) (by assumption) (by assumption), if_pos hf1]; refine ⟨?_, hL, hKw⟩; simp [*])
                  | (rw [checkR_node (d := d) (t := t) (by omega) (by assumption) (by assumption) (by assumption) (by assumption), hst.2 (by assumption)]; refine ⟨?_, hL, hKw⟩; simp)
            · intro hc30
              try simp only [decide_eq_true_eq, decide_eq_false_iff_not, Bool.not_eq_true', Bool.not_eq_false', Bool.not_true, Bool.not_false, Bool.not_eq_true, Bool.not_eq_false] at hc30
              refine W.skip ?_
              refine C.code ?_
              refine W.seq ?_
              refine W.seq ?_
              refine W.region ?_
              refine SQ.op rfl rfl rfl (r_fieldAddr rfl rfl Tryd.underlying25 rfl Tryd.sizeOf23 rfl) ?_
              refine SQ.op rfl rfl rfl (r_load rfl rfl Tryd.isAgg23 (by first | exact hB3.cell rfl | exact hL.cell rfl | assumption)) ?_
              refine SQ.op rfl rfl rfl (r_lenSlice rfl rfl Tryd.underlying23) ?_
              refine SQ.op rfl rfl rfl (r_move rfl rfl) ?_
              refine SQ.nil ?_
              refine C.code ?_
              refine W.block ?_
              refine W.loop (α := Nat) (fun i => [(1, .pointer (some ⟨lb, 0, none⟩)), (2, .int .i64 ((d + 1 : Nat) : Int)), (3, .pointer (some ⟨nb3, 0, none⟩)), (69, .slice A t.args.length c), (70, .int .i64 (t.args.length : Int)), (71, .int .i64 (i : Int))]) (fun i w1 => Tr w1 (fun b => b < N) t A c ∧ Blk w1 lb [.int .i64 (foldC (checkR d) (t.args.take i) (left - 1)).2] 3 ∧ Blk w1 nb3 (t.cs A c) 25 ∧ Kp (fun b => b = lb) w w1 ∧ i ≤ t.args.length ∧ (foldC (checkR d) (t.args.take i) (left - 1)).1 = true ∧ 0 ≤ (foldC (checkR d) (t.args.take i) (left - 1)).2 ∧ (foldC (checkR d) (t.args.take i) (left - 1)).2 ≤ 1000) (fun i => t.args.length - i) 0 ⟨rfl, rfl, rfl, rfl, rfl, rfl, trivial⟩ ⟨hT, hL, hB3, hKw, by omega, rfl, by simp [foldC]; omega, by simp [foldC]; omega⟩ ?_
              rintro i wl ⟨hT, hL, hB3, hKw, hile, hf1, hf2, hf3⟩
              have hpl := partsR_le t.op
              by_cases hi : i < t.args.length
              · obtain ⟨ba, oa, x, rfl, hx, hC, hTx, hSb⟩ := hT.child hi
                replace hSb : ba < N := hSb
                have hst := foldC_step _ i (left - 1) _ hf1 hx
                have hxr := checkR_range d x.t _ hf2
                refine W.seq ?_
                refine W.region ?_
                refine SQ.opD true rfl rfl rfl (r_lss rfl rfl rfl) (by simp; omega) ?_
                refine SQ.nil ?_
                refine C.code ?_
                refine W.seq ?_
                refine W.cond_t rfl ?_
                refine W.skip ?_
                refine C.code ?_
                refine W.seq ?_
                refine W.block ?_
                refine W.seq ?_
                refine W.region ?_
                refine SQ.op rfl rfl rfl (r_indexAddr rfl rfl rfl Tryd.underlying23 Tryd.sizeOf25 rfl (by omega)) ?_
                refine SQ.op rfl rfl rfl (r_loadAgg rfl rfl Tryd.isAgg25 Tryd.sizeOf25 rfl (by first | exact hC | exact hB3.cells | exact hL.cells | assumption)) ?_
                have hsz38 := hKw.size
                refine SQ.new (v := (fun nb => .pointer (some ⟨nb, 0, none⟩))) rfl rfl rfl (r_alloc rfl Tryd.zeroValue25) ?_
                intro nb8 wv34 hge35 hlt36 hB8 hE37
                have hlt_hL_hB8 := Nat.lt_of_lt_of_le hL.lt hge35
                have hlt_hB3_hB8 := Nat.lt_of_lt_of_le hB3.lt hge35
                replace hT := hT.ext hE37
                replace hL := hL.ext hE37
                replace hB3 := hB3.ext hE37
                replace hC := hC.ext hE37
                replace hTx := hTx.ext hE37
                replace hKw := hKw.ext hE37
                replace hB8 : Blk wv34 nb8 _ _ := hB8
                refine SQ.storeA rfl rfl rfl rfl rfl Tryd.sizeOf25 rfl hB8 ⟨rfl, rfl⟩ ?_
                intro wv39 hS41 hK40
                have hsz42 := hK40.size
                replace hT := hT.kp hK40 (by intro b hb hs; omega)
                replace hL := hL.kp hK40 (by omega)
                replace hB3 := hB3.kp hK40 (by omega)
                replace hC := hC.kp hK40 (by omega)
                replace hTx := hTx.kp hK40 (by intro b hb hs; omega)
                replace hB8 : Blk wv39 _ _ _ := hS41
                clear hS41
                replace hKw := hKw.new hK40 (by intro b hb; subst hb; omega)
                refine SQ.nil ?_
                refine C.code ?_
                refine W.seq ?_
                refine W.region ?_
                refine SQ.op rfl rfl rfl (r_loadAgg rfl rfl Tryd.isAgg25 Tryd.sizeOf25 rfl (by first | exact hB8.cells | exact hC | exact hB3.cells | exact hL.cells | assumption)) ?_
                refine SQ.op rfl rfl rfl (r_move rfl rfl) ?_
                refine SQ.op rfl rfl rfl (r_move rfl rfl) ?_
                refine SQ.op rfl rfl rfl (r_sub rfl rfl rfl (w64e (c := (d : Int)) (by omega) (by omega))) ?_
                have hsz43 := hKw.size
                refine SQ.call rfl rfl rfl (rc_func rfl rfl Tryd.call28) (ih d (by omega) x.t x.A x.c lb N _ _ hTx hL hNl (by have := hKw.size; omega) hf2 (by omega)) ?_
                rintro _ wv44 ⟨rfl, hL2, hE45⟩
                refine ⟨_, rfl, ?_⟩
                replace hT := hT.kp hE45 (by intro b hb hs; omega)
                replace hB3 := hB3.kp hE45 (by omega)
                replace hC := hC.kp hE45 (by omega)
                replace hTx := hTx.kp hE45 (by intro b hb hs; omega)
                replace hB8 := hB8.kp hE45 (by omega)
                replace hKw := hKw.both hE45
                replace hL := hL2
                clear hL2
                refine SQ.op rfl rfl rfl (r_not rfl rfl) ?_
                refine SQ.nil ?_
                refine C.code ?_
                refine W.cond rfl ?_ ?_
                · intro hc46
                  try simp only [decide_eq_true_eq, decide_eq_false_iff_not, Bool.not_eq_true', Bool.not_eq_false', Bool.not_true, Bool.not_false, Bool.not_eq_true, Bool.not_eq_false] at hc46
                  refine W.seq ?_
                  refine W.region ?_
                  refine SQ.op rfl rfl rfl (r_assign rfl rfl) ?_
                  refine SQ.nil ?_
                  refine C.code ?_
                  refine W.ret ?_
                  refine C.ret1 Tryd.results28 rfl ?_
                  first
                    | (rw [checkR_bad (d := d) (t := t) (.inl (by omega))]; exact ⟨rfl, hL, hKw⟩)
                    | (rw [checkR_bad (d := d) (t := t) (.inr (by assumption))]; exact ⟨rfl, hL, hKw⟩)
                    | (rw [checkR_int (d := d) (t := t) (by omega) (by assumption) (by assumption)]; refine ⟨?_, hL, hKw⟩; simp [*])
                    | (rw [checkR_bool (d := d) (t := t) (by omega) (by assumption) (by assumption)]; refine ⟨?_, hL, hKw⟩; simp [*])
                    | (rw [checkR_name (d := d) (t := t) (by omega) (by assumption) (by assumption)]; refine ⟨?_, hL, hKw⟩; simp [*])
                    | (rw [checkR_node (d := d) (t := t) (by omega) (by assumption) (by assumption) (by assumption) (by assumption), if_pos hf1]; refine ⟨?_, hL, hKw⟩; simp [*])
                    | (rw [checkR_node (d := d) (t := t) (by omega) (by assumption) (by assumption) (by assumption) (by assumption), hst.2 (by assumption)]; refine ⟨?_, hL, hKw⟩; simp)
                · intro hc46
                  try simp only [decide_eq_true_eq, decide_eq_false_iff_not, Bool.not_eq_true', Bool.not_eq_false', Bool.not_true, Bool.not_false, Bool.not_eq_true, Bool.not_eq_false] at hc46
                  refine W.skip ?_
                  refine C.code ?_
                  refine W.region ?_
                  refine SQ.op rfl rfl rfl (r_add rfl rfl rfl (w64 (by omega))) ?_
                  refine SQ.op rfl rfl rfl (r_move rfl rfl) ?_
                  refine SQ.nil ?_
                  refine C.round (i + 1) ⟨rfl, rfl, rfl, rfl, rfl, rfl, trivial⟩ ⟨hT, ?_, hB3, hKw, by omega, ?_, ?_, ?_⟩ (by omega)
                  · rw [hst.1]; exact hL
                  · rw [hst.1]; assumption
                  · rw [hst.1]; exact hxr.2.2 (by assumption)
                  · rw [hst.1]; dsimp only; omega
              · obtain rfl : i = t.args.length := by omega
                rw [List.take_length] at hL hf1 hf2 hf3
                refine W.seq ?_
                refine W.region ?_
                refine SQ.opD false rfl rfl rfl (r_lss rfl rfl rfl) (by simp) ?_
                refine SQ.nil ?_
                refine C.code ?_
                refine W.seq ?_
                refine W.cond_f rfl ?_
                refine W.exit rfl ?_
                refine C.code ?_
                refine W.seq ?_
                refine W.region ?_
                refine SQ.op rfl rfl rfl (r_fieldAddr rfl rfl Tryd.underlying25 rfl Tryd.sizeOf2 rfl) ?_
                refine SQ.op rfl rfl rfl (r_load rfl rfl Tryd.isAgg2 (by first | exact hB3.cell rfl | exact hL.cell rfl | assumption)) ?_
                refine SQ.op rfl rfl rfl (r_eqlInt rfl rfl rfl) ?_
                refine SQ.opB rfl rfl rfl (r_move rfl rfl) ?_ ?_
                · intro hb17_3
                  try simp only [decide_eq_true_eq, decide_eq_false_iff_not, Bool.not_eq_true', Bool.not_eq_false', Bool.not_true, Bool.not_false, Bool.not_eq_true, Bool.not_eq_false] at hb17_3
                  refine SQ.guarded rfl rfl rfl rfl rfl ?_
                  refine SQ.op rfl rfl rfl (r_fieldAddr rfl rfl Tryd.underlying25 rfl Tryd.sizeOf9 rfl) ?_
                  refine SQ.guarded rfl rfl rfl rfl rfl ?_
                  refine SQ.op rfl rfl rfl (r_load rfl rfl Tryd.isAgg9 (by first | exact hB3.cell rfl | exact hL.cell rfl | assumption)) ?_
                  refine SQ.guarded rfl rfl rfl rfl rfl ?_
                  refine SQ.op rfl rfl rfl (r_eqlStr rfl rfl rfl) ?_
                  refine SQ.op rfl rfl rfl (r_pick_t rfl rfl rfl) ?_
                  refine SQ.op rfl rfl rfl (r_assign rfl rfl) ?_
                  refine SQ.nil ?_
                  refine C.code ?_
                  refine W.ret ?_
                  refine C.ret1 Tryd.results28 rfl ?_
                  first
                    | (rw [checkR_bad (d := d) (t := t) (.inl (by omega))]; exact ⟨rfl, hL, hKw⟩)
                    | (rw [checkR_bad (d := d) (t := t) (.inr (by assumption))]; exact ⟨rfl, hL, hKw⟩)
                    | (rw [checkR_int (d := d) (t := t) (by omega) (by assumption) (by assumption)]; refine ⟨?_, hL, hKw⟩; simp [*])
                    | (rw [checkR_bool (d := d) (t := t) (by omega) (by assumption) (by assumption)]; refine ⟨?_, hL, hKw⟩; simp [*])
                    | (rw [checkR_name (d := d) (t := t) (by omega) (by assumption) (by assumption)]; refine ⟨?_, hL, hKw⟩; simp [*])
                    | (rw [checkR_node (d := d) (t := t) (by omega) (by assumption) (by assumption) (by assumption) (by assumption), if_pos hf1]; refine ⟨?_, hL, hKw⟩; simp [*])
                    | (rw [checkR_node (d := d) (t := t) (by omega) (by assumption) (by assumption) (by assumption) (by assumption), hst.2 (by assumption)]; refine ⟨?_, hL, hKw⟩; simp)
                · intro hb17_3
                  try simp only [decide_eq_true_eq, decide_eq_false_iff_not, Bool.not_eq_true', Bool.not_eq_false', Bool.not_true, Bool.not_false, Bool.not_eq_true, Bool.not_eq_false] at hb17_3
                  refine SQ.skip rfl rfl rfl rfl rfl rfl rfl ?_
                  refine SQ.skip rfl rfl rfl rfl rfl rfl rfl ?_
                  refine SQ.skip rfl rfl rfl rfl rfl rfl rfl ?_
                  refine SQ.op rfl rfl rfl (r_pick_f rfl rfl rfl) ?_
                  refine SQ.op rfl rfl rfl (r_assign rfl rfl) ?_
                  refine SQ.nil ?_
                  refine C.code ?_
                  refine W.ret ?_
                  refine C.ret1 Tryd.results28 rfl ?_
                  first
                    | (rw [checkR_bad (d := d) (t := t) (.inl (by omega))]; exact ⟨rfl, hL, hKw⟩)
                    | (rw [checkR_bad (d := d) (t := t) (.inr (by assumption))]; exact ⟨rfl, hL, hKw⟩)
                    | (rw [checkR_int (d := d) (t := t) (by omega) (by assumption) (by assumption)]; refine ⟨?_, hL, hKw⟩; simp [*])
                    | (rw [checkR_bool (d := d) (t := t) (by omega) (by assumption) (by assumption)]; refine ⟨?_, hL, hKw⟩; simp [*])
                    | (rw [checkR_name (d := d) (t := t) (by omega) (by assumption) (by assumption)]; refine ⟨?_, hL, hKw⟩; simp [*])
                    | (rw [checkR_node (d := d) (t := t) (by omega) (by assumption) (by assumption) (by assumption) (by assumption), if_pos hf1]; refine ⟨?_, hL, hKw⟩; simp [*])
                    | (rw [checkR_node (d := d) (t := t) (by omega) (by assumption) (by assumption) (by assumption) (by assumption), hst.2 (by assumption)]; refine ⟨?_, hL, hKw⟩; simp)

theorem check_spec : ∀ d, d ≤ 1000 → CheckAt d := fun d => Nat.strongRecOn d fun d ih hd t A c lb N left w hT hL hNl hN h0 h1 => check_step t A c d lb N left w (fun d' h => ih d' h (by omega)) hT hL hNl hN h0 h1 hd

/-- belfry.exprs.Check -/
theorem Check_spec (t : Ex) (A : Option Addr) (c N : Nat) (w : World) (hT : Tr w (fun b => b < N) t A c) (hN : N ≤ w.heap.size) :
    Calls Tryd.prog 15 #[.agg (t.cs A c).toArray] w fun e w' => e = .returned (.bool (checkB t)) ∧ Ext w w' := by
  refine calls_of Tryd.func15 rfl Tryd.ntmps15 rfl ?_
  have hEw := Kp.refl (fun _ => False) w
  refine W.seq ?_
  refine W.region ?_
  have hsz5 := hEw.size
  refine SQ.new (v := (fun nb => .pointer (some ⟨nb, 0, none⟩))) rfl rfl rfl (r_box rfl rfl) ?_
  intro nb1 wv1 hge2 hlt3 hB1 hE4
  replace hT := hT.ext hE4
  replace hEw := hEw.ext hE4
  replace hB1 : Blk wv1 nb1 _ _ := hB1
  refine SQ.op rfl rfl rfl (r_assign rfl rfl) ?_
  refine SQ.nil ?_
  refine C.code ?_
  refine W.seq ?_
  refine W.region ?_
  have hsz10 := hEw.size
  refine SQ.new (v := (fun nb => .pointer (some ⟨nb, 0, none⟩))) rfl rfl rfl (r_alloc rfl Tryd.zeroValue3) ?_
  intro nb3 wv6 hge7 hlt8 hB3 hE9
  have hlt_hB1_hB3 := Nat.lt_of_lt_of_le hB1.lt hge7
  replace hT := hT.ext hE9
  replace hB1 := hB1.ext hE9
  replace hEw := hEw.ext hE9
  replace hB3 : Blk wv6 nb3 _ _ := hB3
  refine SQ.store rfl rfl rfl rfl rfl Tryd.sizeOf3 rfl hB3 rfl ?_
  intro wv11 hS13 hK12
  have hsz14 := hK12.size
  replace hT := hT.kp hK12 (by intro b hb hs; omega)
  replace hB1 := hB1.kp hK12 (by omega)
  replace hB3 : Blk wv11 _ _ _ := hS13
  clear hS13
  replace hEw := hEw.new hK12 (by intro b hb; subst hb; omega)
  refine SQ.nil ?_
  refine C.code ?_
  refine W.seq ?_
  refine W.region ?_
  refine SQ.op rfl rfl rfl (r_loadAgg rfl rfl Tryd.isAgg25 Tryd.sizeOf25 rfl (by first | exact hB3.cells | exact hB1.cells | assumption)) ?_
  have hsz15 := hEw.size
  refine SQ.call rfl rfl rfl (rc_func rfl rfl Tryd.call28) (check_spec 32 (by decide) t A c nb3 N 200 _ hT hB3 (by omega) (by have := hEw.size; omega) (by decide) (by decide)) ?_
  rintro _ wv16 ⟨rfl, hB32, hE17⟩
  refine ⟨_, rfl, ?_⟩
  replace hT := hT.kp hE17 (by intro b hb hs; omega)
  replace hB1 := hB1.kp hE17 (by omega)
  replace hEw := hEw.new hE17 (by intro b hb; subst hb; omega)
  replace hB3 := hB32
  clear hB32
  refine SQ.op rfl rfl rfl (r_assign rfl rfl) ?_
  refine SQ.nil ?_
  refine C.code ?_
  refine W.ret ?_
  refine C.ret1 Tryd.results15 rfl ?_
  exact ⟨rfl, hEw⟩

/-! ### The same trees -/
mutual
def Ex.beq : Ex → Ex → Bool
  | .mk o n s l, .mk o' n' s' l' => decide (o = o') && (decide (n = n') && (decide (s = s') && Ex.beqs l l'))
def Ex.beqs : List Ex → List Ex → Bool
  | [], [] => true
  | x :: r, y :: q => Ex.beq x y && Ex.beqs r q
  | [], _ :: _ => false
  | _ :: _, [] => false
end
mutual
theorem Ex.beq_iff : ∀ (x y : Ex), Ex.beq x y = true ↔ x = y
  | .mk o n s l, .mk o' n' s' l' => by
    have := Ex.beqs_iff l l'
    simp [Ex.beq, this]
theorem Ex.beqs_iff : ∀ (l q : List Ex), Ex.beqs l q = true ↔ l = q
  | [], [] => by simp [Ex.beqs]
  | x :: r, y :: q => by
    have h1 := Ex.beq_iff x y
    have h2 := Ex.beqs_iff r q
    simp [Ex.beqs, h1, h2]
  | [], _ :: _ => by simp [Ex.beqs]
  | _ :: _, [] => by simp [Ex.beqs]
end
theorem Ex.beq_def (x y : Ex) : Ex.beq x y = (decide (x.op = y.op) && (decide (x.n = y.n) && (decide (x.nm = y.nm) && Ex.beqs x.args y.args))) := by
  cases x; cases y; simp only [Ex.beq]; rfl
theorem beqs_len {l q : List Ex} (h : l.length ≠ q.length) : Ex.beqs l q = false := by
  rw [Bool.eq_false_iff]; intro hb; exact h (congrArg _ ((Ex.beqs_iff l q).1 hb))
theorem beqs_no {l q : List Ex} {i : Nat} {x y : Ex} (hx : l[i]? = some x) (hy : q[i]? = some y) (h : Ex.beq x y = false) : Ex.beqs l q = false := by
  rw [Bool.eq_false_iff]; intro hb
  have := (Ex.beqs_iff l q).1 hb; subst this
  rw [hx] at hy; cases hy
  rw [(Ex.beq_iff x x).2 rfl] at h; cases h
theorem beqs_yes {l q : List Ex} (hl : l.length = q.length) (h : ∀ j, j < l.length → l[j]? = q[j]?) : Ex.beqs l q = true := by
  rw [Ex.beqs_iff]
  apply List.ext_getElem? 
  intro j
  by_cases hj : j < l.length
  · exact h j hj
  · rw [List.getElem?_eq_none (by omega), List.getElem?_eq_none (by omega)]
def SameAt (t : Ex) : Prop := ∀ (u : Ex) (A : Option Addr) (c : Nat) (A' : Option Addr) (c' N : Nat) (w : World), Tr w (fun b => b < N) t A c → Tr w (fun b => b < N) u A' c' → N ≤ w.heap.size →
  Calls Tryd.prog 30 #[.agg (t.cs A c).toArray, .agg (u.cs A' c').toArray] w fun e w' => e = .returned (.bool (Ex.beq t u)) ∧ Ext w w'
def SamesAt (t : Ex) : Prop := ∀ (u : Ex) (A : Option Addr) (c : Nat) (A' : Option Addr) (c' N : Nat) (w : World), Tr w (fun b => b < N) t A c → Tr w (fun b => b < N) u A' c' → N ≤ w.heap.size →
  Calls Tryd.prog 51 #[.slice A t.args.length c, .slice A' u.args.length c'] w fun e w' => e = .returned (.bool (Ex.beqs t.args u.args)) ∧ Ext w w'

/-- belfry.belfrylaw01.SameExprs -/
theorem sames_step (t : Ex) (ih : ∀ (x : Ex) (i : Nat), t.args[i]? = some x → SameAt x) (u : Ex) (A : Option Addr) (c : Nat) (A' : Option Addr) (c' N : Nat) (w : World) (hT : Tr w (fun b => b < N) t A c) (hU : Tr w (fun b => b < N) u A' c') (hN : N ≤ w.heap.size) :
    Calls Tryd.prog 51 #[.slice A t.args.length c, .slice A' u.args.length c'] w fun e w' => e = .returned (.bool (Ex.beqs t.args u.args)) ∧ Ext w w' := by
  refine calls_of Tryd.func51 rfl Tryd.ntmps51 rfl ?_
  have hEw := Kp.refl (fun _ => False) w
  refine W.seq ?_
  refine W.region ?_
  refine SQ.op rfl rfl rfl (r_assign rfl rfl) ?_
  refine SQ.nil ?_
  refine C.code ?_
  refine W.seq ?_
  refine W.seq ?_
  refine W.region ?_
  refine SQ.op rfl rfl rfl (r_move rfl rfl) ?_
  refine SQ.op rfl rfl rfl (r_lenSlice rfl rfl Tryd.underlying23) ?_
  refine SQ.op rfl rfl rfl (r_move rfl rfl) ?_
  refine SQ.op rfl rfl rfl (r_lenSlice rfl rfl Tryd.underlying23) ?_
  refine SQ.op rfl rfl rfl (r_neqInt rfl rfl rfl) ?_
  refine SQ.nil ?_
  refine C.code ?_
  refine W.cond rfl ?_ ?_
  · intro hc1
    try simp only [decide_eq_true_eq, decide_eq_false_iff_not, Bool.not_eq_true', Bool.not_eq_false', Bool.not_true, Bool.not_false, Bool.not_eq_true, Bool.not_eq_false] at hc1
    refine W.seq ?_
    refine W.region ?_
    refine SQ.op rfl rfl rfl (r_assign rfl rfl) ?_
    refine SQ.nil ?_
    refine C.code ?_
    refine W.ret ?_
    refine C.ret1 Tryd.results51 rfl ?_
    refine ⟨?_, hEw⟩
    first
      | (rw [beqs_len (by omega)])
      | (rw [beqs_no hx hy (by assumption)])
      | (rw [beqs_yes (by omega) (fun j hj => hall j (by omega))])
  · intro hc1
    try simp only [decide_eq_true_eq, decide_eq_false_iff_not, Bool.not_eq_true', Bool.not_eq_false', Bool.not_true, Bool.not_false, Bool.not_eq_true, Bool.not_eq_false] at hc1
    refine W.skip ?_
    refine C.code ?_
    refine W.seq ?_
    refine W.seq ?_
    refine W.region ?_
    refine SQ.op rfl rfl rfl (r_assign rfl rfl) ?_
    refine SQ.nil ?_
    refine C.code ?_
    refine W.block ?_
    refine W.loop (α := Nat) (fun i => [(0, .slice A t.args.length c), (1, .slice A' u.args.length c'), (5, .int .i64 (i : Int))]) (fun i w1 => Tr w1 (fun b => b < N) t A c ∧ Tr w1 (fun b => b < N) u A' c' ∧ Ext w w1 ∧ i ≤ t.args.length ∧ ∀ j, j < i → t.args[j]? = u.args[j]?) (fun i => t.args.length - i) 0 ⟨rfl, rfl, rfl, trivial⟩ ⟨hT, hU, hEw, by omega, fun j h => absurd h (by omega)⟩ ?_
    rintro i wl ⟨hT, hU, hEw, hile, hall⟩
    have hlen := hT.len
    by_cases hi : i < t.args.length
    · obtain ⟨ba, oa, x, rfl, hx, hC, hTx, hSb⟩ := hT.child hi
      obtain ⟨ba', oa', y, rfl, hy, hD, hUy, hSb'⟩ := hU.child (i := i) (by omega)
      refine W.seq ?_
      refine W.seq ?_
      refine W.region ?_
      refine SQ.op rfl rfl rfl (r_move rfl rfl) ?_
      refine SQ.op rfl rfl rfl (r_move rfl rfl) ?_
      refine SQ.op rfl rfl rfl (r_lenSlice rfl rfl Tryd.underlying23) ?_
      refine SQ.opD true rfl rfl rfl (r_lss rfl rfl rfl) (by simp; omega) ?_
      refine SQ.nil ?_
      refine C.code ?_
      refine W.cond_t rfl ?_
      refine W.skip ?_
      refine C.code ?_
      refine W.seq ?_
      refine W.block ?_
      refine W.seq ?_
      refine W.quiet mixed (by kernel_rfl) ?_
      refine QZ.op rfl rfl rfl (fun w' hE => r_move rfl rfl) ?_
      refine QZ.op rfl rfl rfl (fun w' hE => r_move rfl rfl) ?_
      refine QZ.op rfl rfl rfl (fun w' hE => r_indexAddr rfl rfl rfl Tryd.underlying23 Tryd.sizeOf25 rfl (by omega)) ?_
      refine QZ.op rfl rfl rfl (fun w' hE => r_loadAgg rfl rfl Tryd.isAgg25 Tryd.sizeOf25 rfl (by first | exact (fun j v hv => hE.cell (hD j v hv)) | exact (fun j v hv => hE.cell (hC j v hv)) | assumption)) ?_
      refine QZ.op rfl rfl rfl (fun w' hE => r_move rfl rfl) ?_
      refine QZ.op rfl rfl rfl (fun w' hE => r_move rfl rfl) ?_
      refine QZ.op rfl rfl rfl (fun w' hE => r_indexAddr rfl rfl rfl Tryd.underlying23 Tryd.sizeOf25 rfl (by omega)) ?_
      refine QZ.op rfl rfl rfl (fun w' hE => r_loadAgg rfl rfl Tryd.isAgg25 Tryd.sizeOf25 rfl (by first | exact (fun j v hv => hE.cell (hD j v hv)) | exact (fun j v hv => hE.cell (hC j v hv)) | assumption)) ?_
      refine QZ.call rfl rfl rfl (fun w' hE => rc_func rfl rfl Tryd.call30) (fun w' hE => hE.calls (ih x.t i hx y.t x.A x.c y.A y.c N w' (hTx.ext hE) (hUy.ext hE) (by have := hE.size; have := hEw.size; omega))) ?_
      refine QZ.op rfl rfl rfl (fun w' hE => r_not rfl rfl) ?_
      refine QZ.nil ?_
      intro wv2 hE3
      replace hT := hT.ext hE3
      replace hU := hU.ext hE3
      replace hC := hC.ext hE3
      replace hD := hD.ext hE3
      replace hTx := hTx.ext hE3
      replace hUy := hUy.ext hE3
      replace hEw := hEw.ext hE3
      refine C.code ?_
      refine W.cond rfl ?_ ?_
      · intro hc4
        try simp only [decide_eq_true_eq, decide_eq_false_iff_not, Bool.not_eq_true', Bool.not_eq_false', Bool.not_true, Bool.not_false, Bool.not_eq_true, Bool.not_eq_false] at hc4
        refine W.seq ?_
        refine W.region ?_
        refine SQ.op rfl rfl rfl (r_assign rfl rfl) ?_
        refine SQ.nil ?_
        refine C.code ?_
        refine W.ret ?_
        refine C.ret1 Tryd.results51 rfl ?_
        refine ⟨?_, hEw⟩
        first
          | (rw [beqs_len (by omega)])
          | (rw [beqs_no hx hy (by assumption)])
          | (rw [beqs_yes (by omega) (fun j hj => hall j (by omega))])
      · intro hc4
        try simp only [decide_eq_true_eq, decide_eq_false_iff_not, Bool.not_eq_true', Bool.not_eq_false', Bool.not_true, Bool.not_false, Bool.not_eq_true, Bool.not_eq_false] at hc4
        refine W.skip ?_
        refine C.code ?_
        refine W.region ?_
        refine SQ.op rfl rfl rfl (r_move rfl rfl) ?_
        refine SQ.op rfl rfl rfl (r_add rfl rfl rfl (w64 (by omega))) ?_
        refine SQ.op rfl rfl rfl (r_assign rfl rfl) ?_
        refine SQ.nil ?_
        refine C.round (i + 1) ⟨rfl, rfl, rfl, trivial⟩ ⟨hT, hU, hEw, by omega, fun j hj => ?_⟩ (by omega)
        rcases Nat.lt_or_ge j i with e | e
        · exact hall j e
        · obtain rfl : j = i := by omega
          have he := (Ex.beq_iff x.t y.t).1 (by assumption)
          rw [hx, hy, he]
    · refine W.seq ?_
      refine W.seq ?_
      refine W.region ?_
      refine SQ.op rfl rfl rfl (r_move rfl rfl) ?_
      refine SQ.op rfl rfl rfl (r_move rfl rfl) ?_
      refine SQ.op rfl rfl rfl (r_lenSlice rfl rfl Tryd.underlying23) ?_
      refine SQ.opD false rfl rfl rfl (r_lss rfl rfl rfl) (by simp; omega) ?_
      refine SQ.nil ?_
      refine C.code ?_
      refine W.cond_f rfl ?_
      refine W.exit rfl ?_
      refine C.code ?_
      refine W.seq ?_
      refine W.region ?_
      refine SQ.op rfl rfl rfl (r_assign rfl rfl) ?_
      refine SQ.nil ?_
      refine C.code ?_
      refine W.ret ?_
      refine C.ret1 Tryd.results51 rfl ?_
      refine ⟨?_, hEw⟩
      first
        | (rw [beqs_len (by omega)])
        | (rw [beqs_no hx hy (by assumption)])
        | (rw [beqs_yes (by omega) (fun j hj => hall j (by omega))])

/-- belfry.belfrylaw01.SameExpr -/
theorem same_step (t : Ex) (ih : SamesAt t) (u : Ex) (A : Option Addr) (c : Nat) (A' : Option Addr) (c' N : Nat) (w : World) (hT : Tr w (fun b => b < N) t A c) (hU : Tr w (fun b => b < N) u A' c') (hN : N ≤ w.heap.size) :
    Calls Tryd.prog 30 #[.agg (t.cs A c).toArray, .agg (u.cs A' c').toArray] w fun e w' => e = .returned (.bool (Ex.beq t u)) ∧ Ext w w' := by
  refine calls_of Tryd.func30 rfl Tryd.ntmps30 rfl ?_
  have hEw := Kp.refl (fun _ => False) w
  refine W.seq ?_
  refine W.region ?_
  have hsz5 := hEw.size
  refine SQ.new (v := (fun nb => .pointer (some ⟨nb, 0, none⟩))) rfl rfl rfl (r_box rfl rfl) ?_
  intro nb2 wv1 hge2 hlt3 hB2 hE4
  replace hT := hT.ext hE4
  replace hU := hU.ext hE4
  replace hEw := hEw.ext hE4
  replace hB2 : Blk wv1 nb2 _ _ := hB2
  have hsz10 := hEw.size
  refine SQ.new (v := (fun nb => .pointer (some ⟨nb, 0, none⟩))) rfl rfl rfl (r_box rfl rfl) ?_
  intro nb3 wv6 hge7 hlt8 hB3 hE9
  have hlt_hB2_hB3 := Nat.lt_of_lt_of_le hB2.lt hge7
  replace hT := hT.ext hE9
  replace hU := hU.ext hE9
  replace hB2 := hB2.ext hE9
  replace hEw := hEw.ext hE9
  replace hB3 : Blk wv6 nb3 _ _ := hB3
  refine SQ.op rfl rfl rfl (r_assign rfl rfl) ?_
  refine SQ.nil ?_
  refine C.code ?_
  refine W.seq ?_
  refine W.region ?_
  refine SQ.op rfl rfl rfl (r_fieldAddr rfl rfl Tryd.underlying25 rfl Tryd.sizeOf22 rfl) ?_
  refine SQ.op rfl rfl rfl (r_load rfl rfl Tryd.isAgg22 (by first | exact hB3.cell rfl | exact hB2.cell rfl | assumption)) ?_
  refine SQ.op rfl rfl rfl (r_fieldAddr rfl rfl Tryd.underlying25 rfl Tryd.sizeOf22 rfl) ?_
  refine SQ.op rfl rfl rfl (r_load rfl rfl Tryd.isAgg22 (by first | exact hB3.cell rfl | exact hB2.cell rfl | assumption)) ?_
  refine SQ.op rfl rfl rfl (r_eqlInt rfl rfl rfl) ?_
  refine SQ.opB rfl rfl rfl (r_move rfl rfl) ?_ ?_
  · intro hb1_5
    try simp only [decide_eq_true_eq, decide_eq_false_iff_not, Bool.not_eq_true', Bool.not_eq_false', Bool.not_true, Bool.not_false, Bool.not_eq_true, Bool.not_eq_false] at hb1_5
    refine SQ.guarded rfl rfl rfl rfl rfl ?_
    refine SQ.op rfl rfl rfl (r_fieldAddr rfl rfl Tryd.underlying25 rfl Tryd.sizeOf2 rfl) ?_
    refine SQ.guarded rfl rfl rfl rfl rfl ?_
    refine SQ.op rfl rfl rfl (r_load rfl rfl Tryd.isAgg2 (by first | exact hB3.cell rfl | exact hB2.cell rfl | assumption)) ?_
    refine SQ.guarded rfl rfl rfl rfl rfl ?_
    refine SQ.op rfl rfl rfl (r_fieldAddr rfl rfl Tryd.underlying25 rfl Tryd.sizeOf2 rfl) ?_
    refine SQ.guarded rfl rfl rfl rfl rfl ?_
    refine SQ.op rfl rfl rfl (r_load rfl rfl Tryd.isAgg2 (by first | exact hB3.cell rfl | exact hB2.cell rfl | assumption)) ?_
    refine SQ.guarded rfl rfl rfl rfl rfl ?_
    refine SQ.op rfl rfl rfl (r_eqlInt rfl rfl rfl) ?_
    refine SQ.op rfl rfl rfl (r_pick_t rfl rfl rfl) ?_
    refine SQ.opB rfl rfl rfl (r_move rfl rfl) ?_ ?_
    · intro hb1_12
      try simp only [decide_eq_true_eq, decide_eq_false_iff_not, Bool.not_eq_true', Bool.not_eq_false', Bool.not_true, Bool.not_false, Bool.not_eq_true, Bool.not_eq_false] at hb1_12
      refine SQ.guarded rfl rfl rfl rfl rfl ?_
      refine SQ.op rfl rfl rfl (r_fieldAddr rfl rfl Tryd.underlying25 rfl Tryd.sizeOf9 rfl) ?_
      refine SQ.guarded rfl rfl rfl rfl rfl ?_
      refine SQ.op rfl rfl rfl (r_load rfl rfl Tryd.isAgg9 (by first | exact hB3.cell rfl | exact hB2.cell rfl | assumption)) ?_
      refine SQ.guarded rfl rfl rfl rfl rfl ?_
      refine SQ.op rfl rfl rfl (r_fieldAddr rfl rfl Tryd.underlying25 rfl Tryd.sizeOf9 rfl) ?_
      refine SQ.guarded rfl rfl rfl rfl rfl ?_
      refine SQ.op rfl rfl rfl (r_load rfl rfl Tryd.isAgg9 (by first | exact hB3.cell rfl | exact hB2.cell rfl | assumption)) ?_
      refine SQ.guarded rfl rfl rfl rfl rfl ?_
      refine SQ.op rfl rfl rfl (r_eqlStr rfl rfl rfl) ?_
      refine SQ.op rfl rfl rfl (r_pick_t rfl rfl rfl) ?_
      refine SQ.opB rfl rfl rfl (r_move rfl rfl) ?_ ?_
      · intro hb1_19
        try simp only [decide_eq_true_eq, decide_eq_false_iff_not, Bool.not_eq_true', Bool.not_eq_false', Bool.not_true, Bool.not_false, Bool.not_eq_true, Bool.not_eq_false] at hb1_19
        refine SQ.guarded rfl rfl rfl rfl rfl ?_
        refine SQ.op rfl rfl rfl (r_fieldAddr rfl rfl Tryd.underlying25 rfl Tryd.sizeOf23 rfl) ?_
        refine SQ.guarded rfl rfl rfl rfl rfl ?_
        refine SQ.op rfl rfl rfl (r_load rfl rfl Tryd.isAgg23 (by first | exact hB3.cell rfl | exact hB2.cell rfl | assumption)) ?_
        refine SQ.guarded rfl rfl rfl rfl rfl ?_
        refine SQ.op rfl rfl rfl (r_fieldAddr rfl rfl Tryd.underlying25 rfl Tryd.sizeOf23 rfl) ?_
        refine SQ.guarded rfl rfl rfl rfl rfl ?_
        refine SQ.op rfl rfl rfl (r_load rfl rfl Tryd.isAgg23 (by first | exact hB3.cell rfl | exact hB2.cell rfl | assumption)) ?_
        refine SQ.guarded rfl rfl rfl rfl rfl ?_
        have hsz11 := hEw.size
        refine SQ.call rfl rfl rfl (rc_func rfl rfl Tryd.call51) (ih u A c A' c' N _ hT hU (by have := hEw.size; omega)) ?_
        rintro _ wv12 ⟨rfl, hE13⟩
        refine ⟨_, rfl, ?_⟩
        replace hT := hT.ext hE13
        replace hU := hU.ext hE13
        replace hB2 := hB2.ext hE13
        replace hB3 := hB3.ext hE13
        replace hEw := hEw.ext hE13
        refine SQ.op rfl rfl rfl (r_pick_t rfl rfl rfl) ?_
        refine SQ.op rfl rfl rfl (r_assign rfl rfl) ?_
        refine SQ.nil ?_
        refine C.code ?_
        refine W.ret ?_
        refine C.ret1 Tryd.results30 rfl ?_
        refine ⟨?_, hEw⟩
        rw [Ex.beq_def]; simp [*]
      · intro hb1_19
        try simp only [decide_eq_true_eq, decide_eq_false_iff_not, Bool.not_eq_true', Bool.not_eq_false', Bool.not_true, Bool.not_false, Bool.not_eq_true, Bool.not_eq_false] at hb1_19
        refine SQ.skip rfl rfl rfl rfl rfl rfl rfl ?_
        refine SQ.skip rfl rfl rfl rfl rfl rfl rfl ?_
        refine SQ.skip rfl rfl rfl rfl rfl rfl rfl ?_
        refine SQ.skip rfl rfl rfl rfl rfl rfl rfl ?_
        refine SQ.skip rfl rfl rfl rfl rfl rfl rfl ?_
        refine SQ.op rfl rfl rfl (r_pick_f rfl rfl rfl) ?_
        refine SQ.op rfl rfl rfl (r_assign rfl rfl) ?_
        refine SQ.nil ?_
        refine C.code ?_
        refine W.ret ?_
        refine C.ret1 Tryd.results30 rfl ?_
        refine ⟨?_, hEw⟩
        rw [Ex.beq_def]; simp [*]
    · intro hb1_12
      try simp only [decide_eq_true_eq, decide_eq_false_iff_not, Bool.not_eq_true', Bool.not_eq_false', Bool.not_true, Bool.not_false, Bool.not_eq_true, Bool.not_eq_false] at hb1_12
      refine SQ.skip rfl rfl rfl rfl rfl rfl rfl ?_
      refine SQ.skip rfl rfl rfl rfl rfl rfl rfl ?_
      refine SQ.skip rfl rfl rfl rfl rfl rfl rfl ?_
      refine SQ.skip rfl rfl rfl rfl rfl rfl rfl ?_
      refine SQ.skip rfl rfl rfl rfl rfl rfl rfl ?_
      refine SQ.op rfl rfl rfl (r_pick_f rfl rfl rfl) ?_
      refine SQ.op rfl rfl rfl (r_move rfl rfl) ?_
      refine SQ.skip rfl rfl rfl rfl rfl rfl rfl ?_
      refine SQ.skip rfl rfl rfl rfl rfl rfl rfl ?_
      refine SQ.skip rfl rfl rfl rfl rfl rfl rfl ?_
      refine SQ.skip rfl rfl rfl rfl rfl rfl rfl ?_
      refine SQ.skip rfl rfl rfl rfl rfl rfl rfl ?_
      refine SQ.op rfl rfl rfl (r_pick_f rfl rfl rfl) ?_
      refine SQ.op rfl rfl rfl (r_assign rfl rfl) ?_
      refine SQ.nil ?_
      refine C.code ?_
      refine W.ret ?_
      refine C.ret1 Tryd.results30 rfl ?_
      refine ⟨?_, hEw⟩
      rw [Ex.beq_def]; simp [*]
  · intro hb1_5
    try simp only [decide_eq_true_eq, decide_eq_false_iff_not, Bool.not_eq_true', Bool.not_eq_false', Bool.not_true, Bool.not_false, Bool.not_eq_true, Bool.not_eq_false] at hb1_5
    refine SQ.skip rfl rfl rfl rfl rfl rfl rfl ?_
    refine SQ.skip rfl rfl rfl rfl rfl rfl rfl ?_
    refine SQ.skip rfl rfl rfl rfl rfl rfl rfl ?_
    refine SQ.skip rfl rfl rfl rfl rfl rfl rfl ?_
    refine SQ.skip rfl rfl rfl rfl rfl rfl rfl ?_
    refine SQ.op rfl rfl rfl (r_pick_f rfl rfl rfl) ?_
    refine SQ.op rfl rfl rfl (r_move rfl rfl) ?_
    refine SQ.skip rfl rfl rfl rfl rfl rfl rfl ?_
    refine SQ.skip rfl rfl rfl rfl rfl rfl rfl ?_
    refine SQ.skip rfl rfl rfl rfl rfl rfl rfl ?_
    refine SQ.skip rfl rfl rfl rfl rfl rfl rfl ?_
    refine SQ.skip rfl rfl rfl rfl rfl rfl rfl ?_
    refine SQ.op rfl rfl rfl (r_pick_f rfl rfl rfl) ?_
    refine SQ.op rfl rfl rfl (r_move rfl rfl) ?_
    refine SQ.skip rfl rfl rfl rfl rfl rfl rfl ?_
    refine SQ.skip rfl rfl rfl rfl rfl rfl rfl ?_
    refine SQ.skip rfl rfl rfl rfl rfl rfl rfl ?_
    refine SQ.skip rfl rfl rfl rfl rfl rfl rfl ?_
    refine SQ.skip rfl rfl rfl rfl rfl rfl rfl ?_
    refine SQ.op rfl rfl rfl (r_pick_f rfl rfl rfl) ?_
    refine SQ.op rfl rfl rfl (r_assign rfl rfl) ?_
    refine SQ.nil ?_
    refine C.code ?_
    refine W.ret ?_
    refine C.ret1 Tryd.results30 rfl ?_
    refine ⟨?_, hEw⟩
    rw [Ex.beq_def]; simp [*]

theorem Same_all : ∀ n t, SizeOf.sizeOf t ≤ n → SameAt t
  | 0, t, h => by cases t; simp at h
  | n + 1, t, h => fun u A c A' c' N w hT hU hN => same_step t (fun u A c A' c' N w hT hU hN =>
      sames_step t (fun x i hx => Same_all n x (by have := Ex.child_lt hx; omega)) u A c A' c' N w hT hU hN) u A c A' c' N w hT hU hN
theorem Same_spec (t : Ex) : SameAt t := Same_all _ t (Nat.le_refl _)

/-! ### As it is written -/
def partOf (s : ByteArray) (o least : Int) : ByteArray := if rankR o < least then ⟨#[40]⟩ ++ s ++ ⟨#[41]⟩ else s
def writeR : Nat → Ex → ByteArray
  | 0, _ => ⟨#[]⟩
  | d + 1, t =>
    if (findR pairsF t.op).2 = true then
      partOf (writeR d (t.args.getD 0 exNone)) (t.args.getD 0 exNone).op (asksR (findR pairsF t.op).1).1 ++ ⟨#[32]⟩ ++ (findR pairsF t.op).1.text ++ ⟨#[32]⟩ ++ partOf (writeR d (t.args.getD 1 exNone)) (t.args.getD 1 exNone).op (asksR (findR pairsF t.op).1).2
    else if (findR prefixesF t.op).2 = true then
      if (findR prefixesF t.op).1.kind = 3 ∧ Lib.hasPrefix (partOf (writeR d (t.args.getD 0 exNone)) (t.args.getD 0 exNone).op 6).data.toList (findR prefixesF t.op).1.text.data.toList = false
      then (findR prefixesF t.op).1.text ++ partOf (writeR d (t.args.getD 0 exNone)) (t.args.getD 0 exNone).op 6
      else (findR prefixesF t.op).1.text ++ ⟨#[32]⟩ ++ partOf (writeR d (t.args.getD 0 exNone)) (t.args.getD 0 exNone).op 6
    else if t.op = 1 then ⟨(Lib.itoa t.n).toArray⟩
    else if t.op = 2 then ⟨(Lib.formatBool (decide (t.n = 1))).toArray⟩
    else if t.op = 3 then t.nm
    else ⟨#[105, 102, 32]⟩ ++ partOf (writeR d (t.args.getD 0 exNone)) (t.args.getD 0 exNone).op 0 ++ ⟨#[32, 116, 104, 101, 110, 32]⟩ ++ partOf (writeR d (t.args.getD 1 exNone)) (t.args.getD 1 exNone).op 0 ++ ⟨#[32, 101, 108, 115, 101, 32]⟩ ++ partOf (writeR d (t.args.getD 2 exNone)) (t.args.getD 2 exNone).op 0
def WF : Nat → Ex → Prop
  | 0, _ => False
  | d + 1, t => partsR t.op = (t.args.length : Int) ∧ ∀ x, x ∈ t.args → WF d x
theorem findR_mem : ∀ (fs : List Form) (o : Int), (findR fs o).2 = true → findR fs o = ((findR fs o).1, true) ∧ (findR fs o).1 ∈ fs ∧ (findR fs o).1.op = o
  | [], o, h => by simp [findR] at h
  | f :: r, o, h => by
    unfold findR at h ⊢
    split
    · rename_i e; exact ⟨rfl, by simp, e⟩
    · rename_i e; rw [if_neg e] at h
      obtain ⟨h1, h2, h3⟩ := findR_mem r o h
      exact ⟨h1, by simp [h2], h3⟩
theorem parts_pairs {o : Int} (h : (findR pairsF o).2 = true) : partsR o = 2 := by
  obtain ⟨_, hm, ho⟩ := findR_mem _ _ h
  generalize (findR pairsF o).1 = f at hm ho
  subst ho
  simp only [pairsF, List.mem_cons, List.not_mem_nil, or_false] at hm
  rcases hm with rfl | rfl | rfl | rfl | rfl | rfl | rfl | rfl | rfl | rfl | rfl | rfl <;> rfl
theorem parts_prefixes {o : Int} (h : (findR prefixesF o).2 = true) : partsR o = 1 := by
  obtain ⟨_, hm, ho⟩ := findR_mem _ _ h
  generalize (findR prefixesF o).1 = f at hm ho
  subst ho
  simp only [prefixesF, List.mem_cons, List.not_mem_nil, or_false] at hm
  rcases hm with rfl | rfl | rfl <;> rfl
theorem parts_if {o : Int} (h : (findR pairsF o).2 = false) (h' : (findR prefixesF o).2 = false) (h1 : o ≠ 1) (h2 : o ≠ 2) (h3 : o ≠ 3) (hp : 0 ≤ partsR o) : partsR o = 3 := by
  unfold partsR at hp ⊢
  rw [if_neg (by omega)] at hp ⊢
  split
  · rfl
  · rename_i h17; rw [if_neg h17, if_neg (by simp [h]), if_neg (by simp [h'])] at hp; omega
theorem findR_all {P : Form → Prop} (h0 : P noForm) : ∀ (fs : List Form) (o : Int), (∀ f, f ∈ fs → P f) → P (findR fs o).1
  | [], _, _ => h0
  | f :: r, o, h => by
    unfold findR; split
    · exact h f (by simp)
    · exact findR_all h0 r o (fun g hg => h g (by simp [hg]))
theorem pairs_fit (o : Int) : (0 ≤ (findR pairsF o).1.rank ∧ (findR pairsF o).1.rank ≤ 7) ∧ (findR pairsF o).1.text.size ≤ 3 := by
  refine findR_all (P := fun f => (0 ≤ f.rank ∧ f.rank ≤ 7) ∧ f.text.size ≤ 3) (by decide) pairsF o (fun f hf => ?_)
  simp only [pairsF, List.mem_cons, List.not_mem_nil, or_false] at hf
  rcases hf with rfl | rfl | rfl | rfl | rfl | rfl | rfl | rfl | rfl | rfl | rfl | rfl <;> decide
theorem prefixes_fit (o : Int) : (findR prefixesF o).1.text.size ≤ 3 := by
  refine findR_all (P := fun f => f.text.size ≤ 3) (by decide) prefixesF o (fun f hf => ?_)
  simp only [prefixesF, List.mem_cons, List.not_mem_nil, or_false] at hf
  rcases hf with rfl | rfl | rfl <;> decide
theorem size_one (a : UInt8) : (⟨#[a]⟩ : ByteArray).size = 1 := rfl
theorem size_if : (⟨#[105, 102, 32]⟩ : ByteArray).size = 3 := rfl
theorem size_then : (⟨#[32, 116, 104, 101, 110, 32]⟩ : ByteArray).size = 6 := rfl
theorem size_else : (⟨#[32, 101, 108, 115, 101, 32]⟩ : ByteArray).size = 6 := rfl
theorem partOf_size (s : ByteArray) (o least : Int) : s.size ≤ (partOf s o least).size ∧ (partOf s o least).size ≤ s.size + 2 := by
  unfold partOf; split
  · simp only [ByteArray.size_append, size_one]; omega
  · omega
def WriteAt (d : Nat) : Prop := ∀ (t : Ex) (A : Option Addr) (c N : Nat) (w : World), Tr w (fun b => b < N) t A c → N ≤ w.heap.size → WF d t → (writeR d t).size ≤ 1000000000000 → Gl w →
  Calls Tryd.prog 29 #[.agg (t.cs A c).toArray] w fun e w' => e = .returned (.string (writeR d t)) ∧ Ext w w'
def PartAt (d : Nat) : Prop := ∀ (t : Ex) (A : Option Addr) (c N : Nat) (least : Int) (w : World), Tr w (fun b => b < N) t A c → N ≤ w.heap.size → WF d t → (writeR d t).size ≤ 1000000000000 → Gl w →
  Calls Tryd.prog 47 #[.agg (t.cs A c).toArray, .int .i64 least] w fun e w' => e = .returned (.string (partOf (writeR d t) t.op least)) ∧ Ext w w'
theorem getD_of {l : List Ex} {i : Nat} {x : Ex} (h : l[i]? = some x) : l.getD i exNone = x := by rw [List.getD_eq_getElem?_getD, h]; rfl

/-- belfry.exprs.part -/
theorem part_step (d : Nat) (ih : WriteAt d) (t : Ex) (A : Option Addr) (c N : Nat) (least : Int) (w : World) (hT : Tr w (fun b => b < N) t A c) (hN : N ≤ w.heap.size) (hW : WF d t) (hsz : (writeR d t).size ≤ 1000000000000) (hG : Gl w) :
    Calls Tryd.prog 47 #[.agg (t.cs A c).toArray, .int .i64 least] w fun e w' => e = .returned (.string (partOf (writeR d t) t.op least)) ∧ Ext w w' := by
  refine calls_of Tryd.func47 rfl Tryd.ntmps47 rfl ?_
  have hEw := Kp.refl (fun _ => False) w
  refine W.seq ?_
  refine W.region ?_
  have hsz5 := hEw.size
  refine SQ.new (v := (fun nb => .pointer (some ⟨nb, 0, none⟩))) rfl rfl rfl (r_box rfl rfl) ?_
  intro nb2 wv1 hge2 hlt3 hB2 hE4
  have hge_hG_hB2 := Nat.le_trans hG.size hge2
  replace hT := hT.ext hE4
  replace hG := hG.ext hE4
  replace hEw := hEw.ext hE4
  replace hB2 : Blk wv1 nb2 _ _ := hB2
  refine SQ.op rfl rfl rfl (r_assign rfl rfl) ?_
  refine SQ.nil ?_
  refine C.code ?_
  refine W.seq ?_
  refine W.region ?_
  refine SQ.op rfl rfl rfl (r_loadAgg rfl rfl Tryd.isAgg25 Tryd.sizeOf25 rfl (by first | exact hB2.cells | assumption)) ?_
  have hsz6 := hEw.size
  refine SQ.call rfl rfl rfl (rc_func rfl rfl Tryd.call29) (ih t A c N _ hT (by have := hEw.size; omega) hW hsz hG) ?_
  rintro _ wv7 ⟨rfl, hE8⟩
  refine ⟨_, rfl, ?_⟩
  replace hT := hT.ext hE8
  replace hG := hG.ext hE8
  replace hB2 := hB2.ext hE8
  replace hEw := hEw.ext hE8
  refine SQ.op rfl rfl rfl (r_assign rfl rfl) ?_
  refine SQ.nil ?_
  refine C.code ?_
  refine W.seq ?_
  refine W.seq ?_
  refine W.region ?_
  refine SQ.op rfl rfl rfl (r_fieldAddr rfl rfl Tryd.underlying25 rfl Tryd.sizeOf22 rfl) ?_
  refine SQ.op rfl rfl rfl (r_load rfl rfl Tryd.isAgg22 (by first | exact hB2.cell rfl | assumption)) ?_
  have hsz9 := hEw.size
  refine SQ.call rfl rfl rfl (rc_func rfl rfl Tryd.call63) (rankOf_spec _ _) ?_
  rintro _ wv10 ⟨rfl, hE11⟩
  refine ⟨_, rfl, ?_⟩
  replace hT := hT.ext hE11
  replace hG := hG.ext hE11
  replace hB2 := hB2.ext hE11
  replace hEw := hEw.ext hE11
  refine SQ.op rfl rfl rfl (r_move rfl rfl) ?_
  refine SQ.op rfl rfl rfl (r_lss rfl rfl rfl) ?_
  refine SQ.nil ?_
  refine C.code ?_
  refine W.cond rfl ?_ ?_
  · intro hc12
    try simp only [decide_eq_true_eq, decide_eq_false_iff_not, Bool.not_eq_true', Bool.not_eq_false', Bool.not_true, Bool.not_false, Bool.not_eq_true, Bool.not_eq_false] at hc12
    refine W.seq ?_
    refine W.region ?_
    refine SQ.op rfl rfl rfl (r_move rfl rfl) ?_
    refine SQ.op rfl rfl rfl (r_addStr rfl rfl rfl (by first | omega | (simp only [ByteArray.size_append, size_one, size_if, size_then, size_else]; omega))) ?_
    refine SQ.op rfl rfl rfl (r_addStr rfl rfl rfl (by first | omega | (simp only [ByteArray.size_append, size_one, size_if, size_then, size_else]; omega))) ?_
    refine SQ.op rfl rfl rfl (r_assign rfl rfl) ?_
    refine SQ.nil ?_
    refine C.code ?_
    refine W.ret ?_
    refine C.ret1 Tryd.results47 rfl ?_
    refine ⟨?_, hEw⟩
    unfold partOf
    first | rw [if_pos (by assumption)] | rw [if_neg (by assumption)]
  · intro hc12
    try simp only [decide_eq_true_eq, decide_eq_false_iff_not, Bool.not_eq_true', Bool.not_eq_false', Bool.not_true, Bool.not_false, Bool.not_eq_true, Bool.not_eq_false] at hc12
    refine W.skip ?_
    refine C.code ?_
    refine W.seq ?_
    refine W.region ?_
    refine SQ.op rfl rfl rfl (r_move rfl rfl) ?_
    refine SQ.op rfl rfl rfl (r_assign rfl rfl) ?_
    refine SQ.nil ?_
    refine C.code ?_
    refine W.ret ?_
    refine C.ret1 Tryd.results47 rfl ?_
    refine ⟨?_, hEw⟩
    unfold partOf
    first | rw [if_pos (by assumption)] | rw [if_neg (by assumption)]

theorem writeR_pair {d : Nat} {t : Ex} (h : (findR pairsF t.op).2 = true) : writeR (d + 1) t = partOf (writeR d (t.args.getD 0 exNone)) (t.args.getD 0 exNone).op (asksR (findR pairsF t.op).1).1 ++ ⟨#[32]⟩ ++ (findR pairsF t.op).1.text ++ ⟨#[32]⟩ ++ partOf (writeR d (t.args.getD 1 exNone)) (t.args.getD 1 exNone).op (asksR (findR pairsF t.op).1).2 := by rw [writeR, if_pos h]
theorem writeR_pre {d : Nat} {t : Ex} (h : (findR pairsF t.op).2 = false) (h' : (findR prefixesF t.op).2 = true) : writeR (d + 1) t = if (findR prefixesF t.op).1.kind = 3 ∧ Lib.hasPrefix (partOf (writeR d (t.args.getD 0 exNone)) (t.args.getD 0 exNone).op 6).data.toList (findR prefixesF t.op).1.text.data.toList = false
      then (findR prefixesF t.op).1.text ++ partOf (writeR d (t.args.getD 0 exNone)) (t.args.getD 0 exNone).op 6
      else (findR prefixesF t.op).1.text ++ ⟨#[32]⟩ ++ partOf (writeR d (t.args.getD 0 exNone)) (t.args.getD 0 exNone).op 6 := by rw [writeR, if_neg (by simp [h]), if_pos h']
theorem writeR_pre_size {d : Nat} {t : Ex} (h : (findR pairsF t.op).2 = false) (h' : (findR prefixesF t.op).2 = true) : (partOf (writeR d (t.args.getD 0 exNone)) (t.args.getD 0 exNone).op 6).size ≤ (writeR (d + 1) t).size := by
  rw [writeR_pre h h']; split <;> simp only [ByteArray.size_append] <;> omega
theorem writeR_int {d : Nat} {t : Ex} (h : (findR pairsF t.op).2 = false) (h' : (findR prefixesF t.op).2 = false) (h1 : t.op = 1) : writeR (d + 1) t = ⟨(Lib.itoa t.n).toArray⟩ := by rw [writeR, if_neg (by simp [h]), if_neg (by simp [h']), if_pos h1]
theorem writeR_bool {d : Nat} {t : Ex} (h : (findR pairsF t.op).2 = false) (h' : (findR prefixesF t.op).2 = false) (h1 : t.op = 2) : writeR (d + 1) t = ⟨(Lib.formatBool (decide (t.n = 1))).toArray⟩ := by rw [writeR, if_neg (by simp [h]), if_neg (by simp [h']), if_neg (by omega), if_pos h1]
theorem writeR_name {d : Nat} {t : Ex} (h : (findR pairsF t.op).2 = false) (h' : (findR prefixesF t.op).2 = false) (h1 : t.op = 3) : writeR (d + 1) t = t.nm := by rw [writeR, if_neg (by simp [h]), if_neg (by simp [h']), if_neg (by omega), if_neg (by omega), if_pos h1]
theorem writeR_if {d : Nat} {t : Ex} (h : (findR pairsF t.op).2 = false) (h' : (findR prefixesF t.op).2 = false) (h1 : ¬ t.op = 1) (h2 : ¬ t.op = 2) (h3 : ¬ t.op = 3) : writeR (d + 1) t = ⟨#[105, 102, 32]⟩ ++ partOf (writeR d (t.args.getD 0 exNone)) (t.args.getD 0 exNone).op 0 ++ ⟨#[32, 116, 104, 101, 110, 32]⟩ ++ partOf (writeR d (t.args.getD 1 exNone)) (t.args.getD 1 exNone).op 0 ++ ⟨#[32, 101, 108, 115, 101, 32]⟩ ++ partOf (writeR d (t.args.getD 2 exNone)) (t.args.getD 2 exNone).op 0 := by
  rw [writeR, if_neg (by simp [h]), if_neg (by simp [h']), if_neg h1, if_neg h2, if_neg h3]

/-- belfry.exprs.write -/
theorem write_step (d : Nat) (ih : PartAt d) (t : Ex) (A : Option Addr) (c N : Nat) (w : World) (hT : Tr w (fun b => b < N) t A c) (hN : N ≤ w.heap.size) (hW : WF (d + 1) t) (hsz : (writeR (d + 1) t).size ≤ 1000000000000) (hG : Gl w) :
    Calls Tryd.prog 29 #[.agg (t.cs A c).toArray] w fun e w' => e = .returned (.string (writeR (d + 1) t)) ∧ Ext w w' := by
  refine calls_of Tryd.func29 rfl Tryd.ntmps29 rfl ?_
  have hEw := Kp.refl (fun _ => False) w
  refine W.seq ?_
  refine W.region ?_
  have hsz5 := hEw.size
  refine SQ.new (v := (fun nb => .pointer (some ⟨nb, 0, none⟩))) rfl rfl rfl (r_box rfl rfl) ?_
  intro nb1 wv1 hge2 hlt3 hB1 hE4
  have hge_hG_hB1 := Nat.le_trans hG.size hge2
  replace hT := hT.ext hE4
  replace hG := hG.ext hE4
  replace hEw := hEw.ext hE4
  replace hB1 : Blk wv1 nb1 _ _ := hB1
  refine SQ.op rfl rfl rfl (r_assign rfl rfl) ?_
  refine SQ.nil ?_
  refine C.code ?_
  refine W.seq ?_
  refine W.cut (α := Nat) (fun nb => [(1, .pointer (some ⟨nb1, 0, none⟩)), (3, .pointer (some ⟨nb, 0, none⟩)), (4, .bool (findR pairsF t.op).2)]) (fun nb w1 => Blk w1 nb (findR pairsF t.op).1.enc 88 ∧ Blk w1 nb1 (t.cs A c) 25 ∧ Tr w1 (fun b => b < N) t A c ∧ Gl w1 ∧ Ext w w1) ?_ ?_
  · refine W.held (fun w' => Kp (fun b => False) wv1 w') mixed ?_
    intro wv6 hE7 _
    have hS8 : Kp (fun b => False) wv1 wv6 := hE7.to _
    refine AH.take 1 rfl (by kernel_rfl) (by kernel_rfl) (by kernel_rfl) PanOk.fn rfl rfl rfl hS8 (fun w' hS => r_fieldAddr rfl rfl Tryd.underlying25 rfl Tryd.sizeOf22 rfl) ?_
    refine AH.take 2 rfl (by kernel_rfl) (by kernel_rfl) (by kernel_rfl) PanOk.fn rfl rfl rfl hS8 (fun w' hS => r_load rfl rfl Tryd.isAgg22 (by first | exact hS.cell (hB1.cell rfl) id | assumption)) ?_
    refine AH.two 0 7 (by kernel_rfl) rfl rfl rfl rfl ?_ ?_
    · refine OW.call rfl rfl (rc_func rfl rfl Tryd.call42) (pairs_spec _) ?_
      rintro _ wv9 ⟨bp, rfl, hP, hgp, hE10⟩
      refine .inl ⟨_, rfl, ?_⟩
      have hS11 := hS8.ext hE10
      have hA12 := Ext.trans hE7 hE10
      refine OW.next hS11 ?_
      refine AH.two 3 7 (by kernel_rfl) rfl rfl rfl rfl ?_ ?_
      · refine OW.call rfl rfl (rc_func rfl rfl Tryd.call46) (find_spec pairsF bp 12 _ _ hP (by decide)) ?_
        rintro _ wv13 ⟨rfl, hE14⟩
        refine .inl ⟨_, rfl, ?_⟩
        replace hP := hP.ext hE14
        have hS15 := hS11.ext hE14
        have hA16 := Ext.trans hA12 hE14
        refine OW.next hS15 ?_
        refine AH.take 4 rfl (by kernel_rfl) (by kernel_rfl) (by kernel_rfl) PanOk.fn rfl rfl rfl hS15 (fun w' hS => r_move rfl rfl) ?_
        refine AH.take 5 rfl (by kernel_rfl) (by kernel_rfl) (by kernel_rfl) PanOk.fn rfl rfl rfl hS15 (fun w' hS => r_extract rfl rfl rfl) ?_
        refine AH.take 6 rfl (by kernel_rfl) (by kernel_rfl) (by kernel_rfl) PanOk.fn rfl rfl rfl hS15 (fun w' hS => r_extract rfl rfl rfl) ?_
        refine AH.one 7 rfl (by kernel_rfl) rfl ?_
        have hsz22 := hS15.size
        have hlt0_hB1_hB3 := hB1.lt
        have hsz23 := hEw.size
        refine OW.new (v := (fun nb => .pointer (some ⟨nb, 0, none⟩))) rfl rfl (r_alloc rfl Tryd.zeroValue88) ?_
        intro nb3 wv17 hge20 hlt21 hB3 hE18
        replace hB3 : Blk wv17 nb3 _ _ := hB3
        have hS19 := hS15.ext hE18
        have hA24 := Ext.trans hA16 hE18
        refine OW.next hS19 ?_
        refine AH.one 8 rfl (by kernel_rfl) rfl ?_
        refine OW.storeA rfl rfl rfl rfl Tryd.sizeOf88 rfl hB3 ⟨rfl, rfl⟩ ?_
        intro wv25 hn28 hE26
        replace hB3 : Blk wv25 _ _ _ := hn28
        clear hn28
        have hS27 : Kp (fun b => False) wv1 wv25 := hS19.new hE26 (by intro b hb; subst hb; omega)
        refine OW.next hS27 ?_
        refine AH.take 9 rfl (by kernel_rfl) (by kernel_rfl) (by kernel_rfl) PanOk.fn rfl rfl rfl hS27 (fun w' hS => r_assign rfl rfl) ?_
        refine AH.done (by kernel_rfl) ?_
        replace hT := hT.ext hS27
        replace hG := hG.ext hS27
        replace hB1 := hB1.ext hS27
        replace hEw := hEw.ext hS27
        exact C.cut nb3 ⟨rfl, rfl, rfl, trivial⟩ ⟨hB3, hB1, hT, hG, hEw⟩
      · have hsz34 := hS11.size
        have hlt0_hB1_hB3 := hB1.lt
        have hsz35 := hEw.size
        refine OW.new (v := (fun nb => .pointer (some ⟨nb, 0, none⟩))) rfl rfl (r_alloc rfl Tryd.zeroValue88) ?_
        intro nb3 wv29 hge32 hlt33 hB3 hE30
        have hlt_hP_hB3 := Nat.lt_of_lt_of_le hP.lt hge32
        replace hP := hP.ext hE30
        replace hB3 : Blk wv29 nb3 _ _ := hB3
        have hS31 := hS11.ext hE30
        have hA36 := Ext.trans hA12 hE30
        refine OW.next hS31 ?_
        refine AH.one 3 rfl (by kernel_rfl) rfl ?_
        refine OW.call rfl rfl (rc_func rfl rfl Tryd.call46) (find_spec pairsF bp 12 _ _ hP (by decide)) ?_
        rintro _ wv37 ⟨rfl, hE38⟩
        refine .inl ⟨_, rfl, ?_⟩
        replace hP := hP.ext hE38
        replace hB3 := hB3.ext hE38
        have hS39 := hS31.ext hE38
        have hA40 := Ext.trans hA36 hE38
        refine OW.next hS39 ?_
        refine AH.take 4 rfl (by kernel_rfl) (by kernel_rfl) (by kernel_rfl) PanOk.fn rfl rfl rfl hS39 (fun w' hS => r_move rfl rfl) ?_
        refine AH.take 5 rfl (by kernel_rfl) (by kernel_rfl) (by kernel_rfl) PanOk.fn rfl rfl rfl hS39 (fun w' hS => r_extract rfl rfl rfl) ?_
        refine AH.take 6 rfl (by kernel_rfl) (by kernel_rfl) (by kernel_rfl) PanOk.fn rfl rfl rfl hS39 (fun w' hS => r_extract rfl rfl rfl) ?_
        refine AH.one 8 rfl (by kernel_rfl) rfl ?_
        refine OW.storeA rfl rfl rfl rfl Tryd.sizeOf88 rfl hB3 ⟨rfl, rfl⟩ ?_
        intro wv41 hn44 hE42
        replace hB3 : Blk wv41 _ _ _ := hn44
        clear hn44
        have hS43 : Kp (fun b => False) wv1 wv41 := hS39.new hE42 (by intro b hb; subst hb; omega)
        refine OW.next hS43 ?_
        refine AH.take 9 rfl (by kernel_rfl) (by kernel_rfl) (by kernel_rfl) PanOk.fn rfl rfl rfl hS43 (fun w' hS => r_assign rfl rfl) ?_
        refine AH.done (by kernel_rfl) ?_
        replace hT := hT.ext hS43
        replace hG := hG.ext hS43
        replace hB1 := hB1.ext hS43
        replace hEw := hEw.ext hS43
        exact C.cut nb3 ⟨rfl, rfl, rfl, trivial⟩ ⟨hB3, hB1, hT, hG, hEw⟩
    · have hsz50 := hS8.size
      have hlt0_hB1_hB3 := hB1.lt
      have hsz51 := hEw.size
      refine OW.new (v := (fun nb => .pointer (some ⟨nb, 0, none⟩))) rfl rfl (r_alloc rfl Tryd.zeroValue88) ?_
      intro nb3 wv45 hge48 hlt49 hB3 hE46
      replace hB3 : Blk wv45 nb3 _ _ := hB3
      have hS47 := hS8.ext hE46
      have hA52 := Ext.trans hE7 hE46
      refine OW.next hS47 ?_
      refine AH.one 0 rfl (by kernel_rfl) rfl ?_
      refine OW.call rfl rfl (rc_func rfl rfl Tryd.call42) (pairs_spec _) ?_
      rintro _ wv53 ⟨bp, rfl, hP, hgp, hE54⟩
      refine .inl ⟨_, rfl, ?_⟩
      replace hB3 := hB3.ext hE54
      have hS55 := hS47.ext hE54
      have hA56 := Ext.trans hA52 hE54
      refine OW.next hS55 ?_
      refine AH.one 3 rfl (by kernel_rfl) rfl ?_
      refine OW.call rfl rfl (rc_func rfl rfl Tryd.call46) (find_spec pairsF bp 12 _ _ hP (by decide)) ?_
      rintro _ wv57 ⟨rfl, hE58⟩
      refine .inl ⟨_, rfl, ?_⟩
      replace hB3 := hB3.ext hE58
      replace hP := hP.ext hE58
      have hS59 := hS55.ext hE58
      have hA60 := Ext.trans hA56 hE58
      refine OW.next hS59 ?_
      refine AH.take 4 rfl (by kernel_rfl) (by kernel_rfl) (by kernel_rfl) PanOk.fn rfl rfl rfl hS59 (fun w' hS => r_move rfl rfl) ?_
      refine AH.take 5 rfl (by kernel_rfl) (by kernel_rfl) (by kernel_rfl) PanOk.fn rfl rfl rfl hS59 (fun w' hS => r_extract rfl rfl rfl) ?_
      refine AH.take 6 rfl (by kernel_rfl) (by kernel_rfl) (by kernel_rfl) PanOk.fn rfl rfl rfl hS59 (fun w' hS => r_extract rfl rfl rfl) ?_
      refine AH.one 8 rfl (by kernel_rfl) rfl ?_
      refine OW.storeA rfl rfl rfl rfl Tryd.sizeOf88 rfl hB3 ⟨rfl, rfl⟩ ?_
      intro wv61 hn64 hE62
      replace hB3 : Blk wv61 _ _ _ := hn64
      clear hn64
      have hS63 : Kp (fun b => False) wv1 wv61 := hS59.new hE62 (by intro b hb; subst hb; omega)
      refine OW.next hS63 ?_
      refine AH.take 9 rfl (by kernel_rfl) (by kernel_rfl) (by kernel_rfl) PanOk.fn rfl rfl rfl hS63 (fun w' hS => r_assign rfl rfl) ?_
      refine AH.done (by kernel_rfl) ?_
      replace hT := hT.ext hS63
      replace hG := hG.ext hS63
      replace hB1 := hB1.ext hS63
      replace hEw := hEw.ext hS63
      exact C.cut nb3 ⟨rfl, rfl, rfl, trivial⟩ ⟨hB3, hB1, hT, hG, hEw⟩
  · rintro nb3 wc65 ⟨hB3, hB1, hT, hG, hEw⟩
    refine W.seq ?_
    refine W.region ?_
    refine SQ.op rfl rfl rfl (r_move rfl rfl) ?_
    refine SQ.nil ?_
    refine C.code ?_
    refine W.cond rfl ?_ ?_
    · intro hc66
      try simp only [decide_eq_true_eq, decide_eq_false_iff_not, Bool.not_eq_true', Bool.not_eq_false', Bool.not_true, Bool.not_false, Bool.not_eq_true, Bool.not_eq_false] at hc66
      refine W.seq ?_
      refine W.region ?_
      refine SQ.op rfl rfl rfl (r_loadAgg rfl rfl Tryd.isAgg88 Tryd.sizeOf88 rfl (by first | exact hB1.cells | exact hB3.cells | assumption)) ?_
      have hsz67 := hEw.size
      refine SQ.call rfl rfl rfl (rc_func rfl rfl Tryd.call43) (asks_spec (findR pairsF t.op).1 _ (pairs_fit t.op).1) ?_
      rintro _ wv68 ⟨rfl, hE69⟩
      refine ⟨_, rfl, ?_⟩
      replace hB3 := hB3.ext hE69
      replace hB1 := hB1.ext hE69
      replace hT := hT.ext hE69
      replace hG := hG.ext hE69
      replace hEw := hEw.ext hE69
      have hsz74 := hEw.size
      refine SQ.new (v := (fun nb => .pointer (some ⟨nb, 0, none⟩))) rfl rfl rfl (r_alloc rfl Tryd.zeroValue89) ?_
      intro nb5 wv70 hge71 hlt72 hB5 hE73
      have hlt_hB3_hB5 := Nat.lt_of_lt_of_le hB3.lt hge71
      have hlt_hB1_hB5 := Nat.lt_of_lt_of_le hB1.lt hge71
      have hge_hG_hB5 := Nat.le_trans hG.size hge71
      replace hB3 := hB3.ext hE73
      replace hB1 := hB1.ext hE73
      replace hT := hT.ext hE73
      replace hG := hG.ext hE73
      replace hEw := hEw.ext hE73
      replace hB5 : Blk wv70 nb5 _ _ := hB5
      refine SQ.storeA rfl rfl rfl rfl rfl Tryd.sizeOf89 rfl hB5 ⟨rfl, rfl⟩ ?_
      intro wv75 hS77 hK76
      have hsz78 := hK76.size
      replace hB3 := hB3.kp hK76 (by omega)
      replace hB1 := hB1.kp hK76 (by omega)
      replace hT := hT.kp hK76 (by intro b hb hs; omega)
      replace hG := hG.kp hK76 (by intro b hb hs; omega)
      replace hB5 : Blk wv75 _ _ _ := hS77
      clear hS77
      replace hEw := hEw.new hK76 (by intro b hb; subst hb; omega)
      refine SQ.nil ?_
      refine C.code ?_
      refine W.seq ?_
      have hlen : t.args.length = 2 := by have := hW.1; have := parts_pairs (by assumption : (findR pairsF t.op).2 = true); omega
      obtain ⟨ba, oa, x0, rfl, hx0, hC0, hT0, hSb0⟩ := hT.child (i := 0) (by omega)
      have hg0 := getD_of hx0
      have hw0 := hW.2 _ (List.mem_of_getElem? hx0)
      obtain ⟨ba1, oa1, x1, hA1, hx1, hC1, hT1, hSb1⟩ := hT.child (i := 1) (by omega)
      cases hA1
      have hg1 := getD_of hx1
      have hw1 := hW.2 _ (List.mem_of_getElem? hx1)
      have hsz2 := hsz
      rw [writeR_pair (by assumption)] at hsz2
      rw [hg0, hg1] at hsz2
      simp only [ByteArray.size_append, size_one, size_if, size_then, size_else] at hsz2
      have hp0 := partOf_size (writeR d x0.t) x0.t.op ((asksR (findR pairsF t.op).1).1)
      have hp1 := partOf_size (writeR d x1.t) x1.t.op ((asksR (findR pairsF t.op).1).2)
      have hfit := pairs_fit t.op
      refine W.quiet mixed (by kernel_rfl) ?_
      refine QZ.op rfl rfl rfl (fun w' hE => r_fieldAddr rfl rfl Tryd.underlying25 rfl Tryd.sizeOf23 rfl) ?_
      refine QZ.op rfl rfl rfl (fun w' hE => r_load rfl rfl Tryd.isAgg23 (hE.cell (by first | exact hC1.cell rfl | exact hC0.cell rfl | exact hB5.cell rfl | exact hB1.cell rfl | exact hB3.cell rfl | assumption))) ?_
      refine QZ.op rfl rfl rfl (fun w' hE => r_indexAddr rfl rfl rfl Tryd.underlying23 Tryd.sizeOf25 rfl (by omega) (j := 0)) ?_
      refine QZ.op rfl rfl rfl (fun w' hE => r_loadAgg rfl rfl Tryd.isAgg25 Tryd.sizeOf25 rfl (by first | exact (fun j v hv => hE.cell (hC1 j v hv)) | exact (fun j v hv => hE.cell (hC0 j v hv)) | exact (fun j v hv => hE.cell (hB5.cells j v hv)) | exact (fun j v hv => hE.cell (hB1.cells j v hv)) | exact (fun j v hv => hE.cell (hB3.cells j v hv)) | assumption)) ?_
      refine QZ.op rfl rfl rfl (fun w' hE => r_indexAddrA rfl rfl rfl Tryd.underlying89 Tryd.sizeOf3 rfl (by omega) (j := 0)) ?_
      refine QZ.op rfl rfl rfl (fun w' hE => r_load rfl rfl Tryd.isAgg3 (hE.cell (by first | exact hC1.cell rfl | exact hC0.cell rfl | exact hB5.cell rfl | exact hB1.cell rfl | exact hB3.cell rfl | assumption))) ?_
      refine QZ.call rfl rfl rfl (fun w' hE => rc_func rfl rfl Tryd.call47) (fun w' hE => hE.calls (ih x0.t x0.A x0.c N _ w' (hT0.ext hE) (by have := hE.size; have := hEw.size; omega) hw0 (by omega) (hG.ext hE))) ?_
      refine QZ.op rfl rfl rfl (fun w' hE => r_addStr rfl rfl rfl (by first | omega | (simp only [ByteArray.size_append, size_one, size_if, size_then, size_else]; omega))) ?_
      refine QZ.op rfl rfl rfl (fun w' hE => r_fieldAddr rfl rfl Tryd.underlying88 rfl Tryd.sizeOf9 rfl) ?_
      refine QZ.op rfl rfl rfl (fun w' hE => r_load rfl rfl Tryd.isAgg9 (hE.cell (by first | exact hC1.cell rfl | exact hC0.cell rfl | exact hB5.cell rfl | exact hB1.cell rfl | exact hB3.cell rfl | assumption))) ?_
      refine QZ.op rfl rfl rfl (fun w' hE => r_addStr rfl rfl rfl (by first | omega | (simp only [ByteArray.size_append, size_one, size_if, size_then, size_else]; omega))) ?_
      refine QZ.op rfl rfl rfl (fun w' hE => r_addStr rfl rfl rfl (by first | omega | (simp only [ByteArray.size_append, size_one, size_if, size_then, size_else]; omega))) ?_
      refine QZ.op rfl rfl rfl (fun w' hE => r_fieldAddr rfl rfl Tryd.underlying25 rfl Tryd.sizeOf23 rfl) ?_
      refine QZ.op rfl rfl rfl (fun w' hE => r_load rfl rfl Tryd.isAgg23 (hE.cell (by first | exact hC1.cell rfl | exact hC0.cell rfl | exact hB5.cell rfl | exact hB1.cell rfl | exact hB3.cell rfl | assumption))) ?_
      refine QZ.op rfl rfl rfl (fun w' hE => r_indexAddr rfl rfl rfl Tryd.underlying23 Tryd.sizeOf25 rfl (by omega) (j := 1)) ?_
      refine QZ.op rfl rfl rfl (fun w' hE => r_loadAgg rfl rfl Tryd.isAgg25 Tryd.sizeOf25 rfl (by first | exact (fun j v hv => hE.cell (hC1 j v hv)) | exact (fun j v hv => hE.cell (hC0 j v hv)) | exact (fun j v hv => hE.cell (hB5.cells j v hv)) | exact (fun j v hv => hE.cell (hB1.cells j v hv)) | exact (fun j v hv => hE.cell (hB3.cells j v hv)) | assumption)) ?_
      refine QZ.op rfl rfl rfl (fun w' hE => r_indexAddrA rfl rfl rfl Tryd.underlying89 Tryd.sizeOf3 rfl (by omega) (j := 1)) ?_
      refine QZ.op rfl rfl rfl (fun w' hE => r_load rfl rfl Tryd.isAgg3 (hE.cell (by first | exact hC1.cell rfl | exact hC0.cell rfl | exact hB5.cell rfl | exact hB1.cell rfl | exact hB3.cell rfl | assumption))) ?_
      refine QZ.call rfl rfl rfl (fun w' hE => rc_func rfl rfl Tryd.call47) (fun w' hE => hE.calls (ih x1.t x1.A x1.c N _ w' (hT1.ext hE) (by have := hE.size; have := hEw.size; omega) hw1 (by omega) (hG.ext hE))) ?_
      refine QZ.op rfl rfl rfl (fun w' hE => r_addStr rfl rfl rfl (by first | omega | (simp only [ByteArray.size_append, size_one, size_if, size_then, size_else]; omega))) ?_
      refine QZ.op rfl rfl rfl (fun w' hE => r_assign rfl rfl) ?_
      refine QZ.nil ?_
      intro wv79 hE80
      replace hB3 := hB3.ext hE80
      replace hB1 := hB1.ext hE80
      replace hT := hT.ext hE80
      replace hG := hG.ext hE80
      replace hB5 := hB5.ext hE80
      replace hC0 := hC0.ext hE80
      replace hC1 := hC1.ext hE80
      replace hT0 := hT0.ext hE80
      replace hT1 := hT1.ext hE80
      replace hEw := hEw.ext hE80
      refine C.code ?_
      refine W.ret ?_
      refine C.ret1 Tryd.results29 rfl ?_
      refine ⟨?_, hEw⟩
      first
        | (rw [writeR_pair (by assumption), hg0, hg1])
        | (rw [writeR_pre (by assumption) (by assumption), hg0, if_pos ⟨by assumption, by assumption⟩])
        | (rw [writeR_pre (by assumption) (by assumption), hg0, if_neg (by simp [*])])
        | (rw [writeR_int (by assumption) (by assumption) (by assumption)])
        | (rw [writeR_bool (by assumption) (by assumption) (by assumption)])
        | (rw [writeR_name (by assumption) (by assumption) (by assumption)])
        | (rw [writeR_if (by assumption) (by assumption) (by assumption) (by assumption) (by assumption), hg0, hg1, hg2])
    · intro hc66
      try simp only [decide_eq_true_eq, decide_eq_false_iff_not, Bool.not_eq_true', Bool.not_eq_false', Bool.not_true, Bool.not_false, Bool.not_eq_true, Bool.not_eq_false] at hc66
      refine W.skip ?_
      refine C.code ?_
      refine W.seq ?_
      refine W.cut (α := Nat) (fun nb => [(1, .pointer (some ⟨nb1, 0, none⟩)), (6, .pointer (some ⟨nb, 0, none⟩)), (7, .bool (findR prefixesF t.op).2)]) (fun nb w1 => Blk w1 nb (findR prefixesF t.op).1.enc 88 ∧ Blk w1 nb1 (t.cs A c) 25 ∧ Tr w1 (fun b => b < N) t A c ∧ Gl w1 ∧ Ext w w1) ?_ ?_
      · refine W.held (fun w' => Kp (fun b => False) wc65 w') mixed ?_
        intro wv81 hE82 _
        have hS83 : Kp (fun b => False) wc65 wv81 := hE82.to _
        refine AH.take 1 rfl (by kernel_rfl) (by kernel_rfl) (by kernel_rfl) PanOk.fn rfl rfl rfl hS83 (fun w' hS => r_fieldAddr rfl rfl Tryd.underlying25 rfl Tryd.sizeOf22 rfl) ?_
        refine AH.take 2 rfl (by kernel_rfl) (by kernel_rfl) (by kernel_rfl) PanOk.fn rfl rfl rfl hS83 (fun w' hS => r_load rfl rfl Tryd.isAgg22 (by first | exact hS.cell (hB1.cell rfl) id | exact hS.cell (hB3.cell rfl) id | assumption)) ?_
        refine AH.two 0 7 (by kernel_rfl) rfl rfl rfl rfl ?_ ?_
        · refine OW.call rfl rfl (rc_func rfl rfl Tryd.call48) (prefixes_spec _) ?_
          rintro _ wv84 ⟨bq, rfl, hQ, hgq, hE85⟩
          refine .inl ⟨_, rfl, ?_⟩
          have hS86 := hS83.ext hE85
          have hA87 := Ext.trans hE82 hE85
          refine OW.next hS86 ?_
          refine AH.two 3 7 (by kernel_rfl) rfl rfl rfl rfl ?_ ?_
          · refine OW.call rfl rfl (rc_func rfl rfl Tryd.call46) (find_spec prefixesF bq 3 _ _ hQ (by decide)) ?_
            rintro _ wv88 ⟨rfl, hE89⟩
            refine .inl ⟨_, rfl, ?_⟩
            replace hQ := hQ.ext hE89
            have hS90 := hS86.ext hE89
            have hA91 := Ext.trans hA87 hE89
            refine OW.next hS90 ?_
            refine AH.take 4 rfl (by kernel_rfl) (by kernel_rfl) (by kernel_rfl) PanOk.fn rfl rfl rfl hS90 (fun w' hS => r_move rfl rfl) ?_
            refine AH.take 5 rfl (by kernel_rfl) (by kernel_rfl) (by kernel_rfl) PanOk.fn rfl rfl rfl hS90 (fun w' hS => r_extract rfl rfl rfl) ?_
            refine AH.take 6 rfl (by kernel_rfl) (by kernel_rfl) (by kernel_rfl) PanOk.fn rfl rfl rfl hS90 (fun w' hS => r_extract rfl rfl rfl) ?_
            refine AH.one 7 rfl (by kernel_rfl) rfl ?_
            have hsz97 := hS90.size
            have hlt0_hB3_hB6 := hB3.lt
            have hlt0_hB1_hB6 := hB1.lt
            have hsz98 := hEw.size
            refine OW.new (v := (fun nb => .pointer (some ⟨nb, 0, none⟩))) rfl rfl (r_alloc rfl Tryd.zeroValue88) ?_
            intro nb6 wv92 hge95 hlt96 hB6 hE93
            replace hB6 : Blk wv92 nb6 _ _ := hB6
            have hS94 := hS90.ext hE93
            have hA99 := Ext.trans hA91 hE93
            refine OW.next hS94 ?_
            refine AH.one 8 rfl (by kernel_rfl) rfl ?_
            refine OW.storeA rfl rfl rfl rfl Tryd.sizeOf88 rfl hB6 ⟨rfl, rfl⟩ ?_
            intro wv100 hn103 hE101
            replace hB6 : Blk wv100 _ _ _ := hn103
            clear hn103
            have hS102 : Kp (fun b => False) wc65 wv100 := hS94.new hE101 (by intro b hb; subst hb; omega)
            refine OW.next hS102 ?_
            refine AH.take 9 rfl (by kernel_rfl) (by kernel_rfl) (by kernel_rfl) PanOk.fn rfl rfl rfl hS102 (fun w' hS => r_assign rfl rfl) ?_
            refine AH.done (by kernel_rfl) ?_
            replace hB3 := hB3.ext hS102
            replace hB1 := hB1.ext hS102
            replace hT := hT.ext hS102
            replace hG := hG.ext hS102
            replace hEw := hEw.ext hS102
            exact C.cut nb6 ⟨rfl, rfl, rfl, trivial⟩ ⟨hB6, hB1, hT, hG, hEw⟩
          · have hsz109 := hS86.size
            have hlt0_hB3_hB6 := hB3.lt
            have hlt0_hB1_hB6 := hB1.lt
            have hsz110 := hEw.size
            refine OW.new (v := (fun nb => .pointer (some ⟨nb, 0, none⟩))) rfl rfl (r_alloc rfl Tryd.zeroValue88) ?_
            intro nb6 wv104 hge107 hlt108 hB6 hE105
            have hlt_hQ_hB6 := Nat.lt_of_lt_of_le hQ.lt hge107
            replace hQ := hQ.ext hE105
            replace hB6 : Blk wv104 nb6 _ _ := hB6
            have hS106 := hS86.ext hE105
            have hA111 := Ext.trans hA87 hE105
            refine OW.next hS106 ?_
            refine AH.one 3 rfl (by kernel_rfl) rfl ?_
            refine OW.call rfl rfl (rc_func rfl rfl Tryd.call46) (find_spec prefixesF bq 3 _ _ hQ (by decide)) ?_
            rintro _ wv112 ⟨rfl, hE113⟩
            refine .inl ⟨_, rfl, ?_⟩
            replace hQ := hQ.ext hE113
            replace hB6 := hB6.ext hE113
            have hS114 := hS106.ext hE113
            have hA115 := Ext.trans hA111 hE113
            refine OW.next hS114 ?_
            refine AH.take 4 rfl (by kernel_rfl) (by kernel_rfl) (by kernel_rfl) PanOk.fn rfl rfl rfl hS114 (fun w' hS => r_move rfl rfl) ?_
            refine AH.take 5 rfl (by kernel_rfl) (by kernel_rfl) (by kernel_rfl) PanOk.fn rfl rfl rfl hS114 (fun w' hS => r_extract rfl rfl rfl) ?_
            refine AH.take 6 rfl (by kernel_rfl) (by kernel_rfl) (by kernel_rfl) PanOk.fn rfl rfl rfl hS114 (fun w' hS => r_extract rfl rfl rfl) ?_
            refine AH.one 8 rfl (by kernel_rfl) rfl ?_
            refine OW.storeA rfl rfl rfl rfl Tryd.sizeOf88 rfl hB6 ⟨rfl, rfl⟩ ?_
            intro wv116 hn119 hE117
            replace hB6 : Blk wv116 _ _ _ := hn119
            clear hn119
            have hS118 : Kp (fun b => False) wc65 wv116 := hS114.new hE117 (by intro b hb; subst hb; omega)
            refine OW.next hS118 ?_
            refine AH.take 9 rfl (by kernel_rfl) (by kernel_rfl) (by kernel_rfl) PanOk.fn rfl rfl rfl hS118 (fun w' hS => r_assign rfl rfl) ?_
            refine AH.done (by kernel_rfl) ?_
            replace hB3 := hB3.ext hS118
            replace hB1 := hB1.ext hS118
            replace hT := hT.ext hS118
            replace hG := hG.ext hS118
            replace hEw := hEw.ext hS118
            exact C.cut nb6 ⟨rfl, rfl, rfl, trivial⟩ ⟨hB6, hB1, hT, hG, hEw⟩
        · have hsz125 := hS83.size
          have hlt0_hB3_hB6 := hB3.lt
          have hlt0_hB1_hB6 := hB1.lt
          have hsz126 := hEw.size
          refine OW.new (v := (fun nb => .pointer (some ⟨nb, 0, none⟩))) rfl rfl (r_alloc rfl Tryd.zeroValue88) ?_
          intro nb6 wv120 hge123 hlt124 hB6 hE121
          replace hB6 : Blk wv120 nb6 _ _ := hB6
          have hS122 := hS83.ext hE121
          have hA127 := Ext.trans hE82 hE121
          refine OW.next hS122 ?_
          refine AH.one 0 rfl (by kernel_rfl) rfl ?_
          refine OW.call rfl rfl (rc_func rfl rfl Tryd.call48) (prefixes_spec _) ?_
          rintro _ wv128 ⟨bq, rfl, hQ, hgq, hE129⟩
          refine .inl ⟨_, rfl, ?_⟩
          replace hB6 := hB6.ext hE129
          have hS130 := hS122.ext hE129
          have hA131 := Ext.trans hA127 hE129
          refine OW.next hS130 ?_
          refine AH.one 3 rfl (by kernel_rfl) rfl ?_
          refine OW.call rfl rfl (rc_func rfl rfl Tryd.call46) (find_spec prefixesF bq 3 _ _ hQ (by decide)) ?_
          rintro _ wv132 ⟨rfl, hE133⟩
          refine .inl ⟨_, rfl, ?_⟩
          replace hB6 := hB6.ext hE133
          replace hQ := hQ.ext hE133
          have hS134 := hS130.ext hE133
          have hA135 := Ext.trans hA131 hE133
          refine OW.next hS134 ?_
          refine AH.take 4 rfl (by kernel_rfl) (by kernel_rfl) (by kernel_rfl) PanOk.fn rfl rfl rfl hS134 (fun w' hS => r_move rfl rfl) ?_
          refine AH.take 5 rfl (by kernel_rfl) (by kernel_rfl) (by kernel_rfl) PanOk.fn rfl rfl rfl hS134 (fun w' hS => r_extract rfl rfl rfl) ?_
          refine AH.take 6 rfl (by kernel_rfl) (by kernel_rfl) (by kernel_rfl) PanOk.fn rfl rfl rfl hS134 (fun w' hS => r_extract rfl rfl rfl) ?_
          refine AH.one 8 rfl (by kernel_rfl) rfl ?_
          refine OW.storeA rfl rfl rfl rfl Tryd.sizeOf88 rfl hB6 ⟨rfl, rfl⟩ ?_
          intro wv136 hn139 hE137
          replace hB6 : Blk wv136 _ _ _ := hn139
          clear hn139
          have hS138 : Kp (fun b => False) wc65 wv136 := hS134.new hE137 (by intro b hb; subst hb; omega)
          refine OW.next hS138 ?_
          refine AH.take 9 rfl (by kernel_rfl) (by kernel_rfl) (by kernel_rfl) PanOk.fn rfl rfl rfl hS138 (fun w' hS => r_assign rfl rfl) ?_
          refine AH.done (by kernel_rfl) ?_
          replace hB3 := hB3.ext hS138
          replace hB1 := hB1.ext hS138
          replace hT := hT.ext hS138
          replace hG := hG.ext hS138
          replace hEw := hEw.ext hS138
          exact C.cut nb6 ⟨rfl, rfl, rfl, trivial⟩ ⟨hB6, hB1, hT, hG, hEw⟩
      · rintro nb6 wc140 ⟨hB6, hB1, hT, hG, hEw⟩
        refine W.seq ?_
        refine W.region ?_
        refine SQ.op rfl rfl rfl (r_move rfl rfl) ?_
        refine SQ.nil ?_
        refine C.code ?_
        refine W.cond rfl ?_ ?_
        · intro hc141
          try simp only [decide_eq_true_eq, decide_eq_false_iff_not, Bool.not_eq_true', Bool.not_eq_false', Bool.not_true, Bool.not_false, Bool.not_eq_true, Bool.not_eq_false] at hc141
          refine W.seq ?_
          have hlen : t.args.length = 1 := by have := hW.1; have := parts_prefixes (by assumption : (findR prefixesF t.op).2 = true); omega
          obtain ⟨ba, oa, x0, rfl, hx0, hC0, hT0, hSb0⟩ := hT.child (i := 0) (by omega)
          have hg0 := getD_of hx0
          have hw0 := hW.2 _ (List.mem_of_getElem? hx0)
          have hfit := prefixes_fit t.op
          have hp0 := partOf_size (writeR d x0.t) x0.t.op 6
          have hsz2 := writeR_pre_size (d := d) (t := t) (by assumption) (by assumption)
          rw [hg0] at hsz2
          refine W.region ?_
          refine SQ.op rfl rfl rfl (r_fieldAddr rfl rfl Tryd.underlying25 rfl Tryd.sizeOf23 rfl) ?_
          refine SQ.op rfl rfl rfl (r_load rfl rfl Tryd.isAgg23 (by first | exact hC0.cell rfl | exact hB1.cell rfl | exact hB6.cell rfl | assumption)) ?_
          refine SQ.op rfl rfl rfl (r_indexAddr rfl rfl rfl Tryd.underlying23 Tryd.sizeOf25 rfl (by omega) (j := 0)) ?_
          refine SQ.op rfl rfl rfl (r_loadAgg rfl rfl Tryd.isAgg25 Tryd.sizeOf25 rfl (by first | exact hC0 | exact hB1.cells | exact hB6.cells | assumption)) ?_
          have hsz142 := hEw.size
          refine SQ.call rfl rfl rfl (rc_func rfl rfl Tryd.call47) (ih x0.t x0.A x0.c N _ _ hT0 (by have := hEw.size; omega) hw0 (by omega) hG) ?_
          rintro _ wv143 ⟨rfl, hE144⟩
          refine ⟨_, rfl, ?_⟩
          replace hB6 := hB6.ext hE144
          replace hB1 := hB1.ext hE144
          replace hT := hT.ext hE144
          replace hG := hG.ext hE144
          replace hC0 := hC0.ext hE144
          replace hT0 := hT0.ext hE144
          replace hEw := hEw.ext hE144
          refine SQ.op rfl rfl rfl (r_assign rfl rfl) ?_
          refine SQ.nil ?_
          refine C.code ?_
          refine W.seq ?_
          refine W.seq ?_
          refine W.region ?_
          refine SQ.op rfl rfl rfl (r_fieldAddr rfl rfl Tryd.underlying88 rfl Tryd.sizeOf5 rfl) ?_
          refine SQ.op rfl rfl rfl (r_load rfl rfl Tryd.isAgg5 (by first | exact hC0.cell rfl | exact hB1.cell rfl | exact hB6.cell rfl | assumption)) ?_
          refine SQ.op rfl rfl rfl (r_eqlInt rfl rfl rfl) ?_
          refine SQ.opB rfl rfl rfl (r_move rfl rfl) ?_ ?_
          · intro hb8_3
            try simp only [decide_eq_true_eq, decide_eq_false_iff_not, Bool.not_eq_true', Bool.not_eq_false', Bool.not_true, Bool.not_false, Bool.not_eq_true, Bool.not_eq_false] at hb8_3
            refine SQ.guarded rfl rfl rfl rfl rfl ?_
            refine SQ.op rfl rfl rfl (r_move rfl rfl) ?_
            refine SQ.guarded rfl rfl rfl rfl rfl ?_
            refine SQ.op rfl rfl rfl (r_fieldAddr rfl rfl Tryd.underlying88 rfl Tryd.sizeOf9 rfl) ?_
            refine SQ.guarded rfl rfl rfl rfl rfl ?_
            refine SQ.op rfl rfl rfl (r_load rfl rfl Tryd.isAgg9 (by first | exact hC0.cell rfl | exact hB1.cell rfl | exact hB6.cell rfl | assumption)) ?_
            refine SQ.guarded rfl rfl rfl rfl rfl ?_
            have hsz145 := hEw.size
            refine SQ.call rfl rfl rfl (rc_func rfl rfl Tryd.call36) (of_same (Tryd.strings_HasPrefix _ _ _)) ?_
            rintro _ wv146 ⟨rfl, hE147⟩
            refine ⟨_, rfl, ?_⟩
            replace hB6 := hB6.ext hE147
            replace hB1 := hB1.ext hE147
            replace hT := hT.ext hE147
            replace hG := hG.ext hE147
            replace hC0 := hC0.ext hE147
            replace hT0 := hT0.ext hE147
            replace hEw := hEw.ext hE147
            refine SQ.guarded rfl rfl rfl rfl rfl ?_
            refine SQ.op rfl rfl rfl (r_not rfl rfl) ?_
            refine SQ.op rfl rfl rfl (r_pick_t rfl rfl rfl) ?_
            refine SQ.nil ?_
            refine C.code ?_
            refine W.cond rfl ?_ ?_
            · intro hc148
              try simp only [decide_eq_true_eq, decide_eq_false_iff_not, Bool.not_eq_true', Bool.not_eq_false', Bool.not_true, Bool.not_false, Bool.not_eq_true, Bool.not_eq_false] at hc148
              refine W.seq ?_
              refine W.region ?_
              refine SQ.op rfl rfl rfl (r_fieldAddr rfl rfl Tryd.underlying88 rfl Tryd.sizeOf9 rfl) ?_
              refine SQ.op rfl rfl rfl (r_load rfl rfl Tryd.isAgg9 (by first | exact hC0.cell rfl | exact hB1.cell rfl | exact hB6.cell rfl | assumption)) ?_
              refine SQ.op rfl rfl rfl (r_move rfl rfl) ?_
              refine SQ.op rfl rfl rfl (r_addStr rfl rfl rfl (by first | omega | (simp only [ByteArray.size_append, size_one, size_if, size_then, size_else]; omega))) ?_
              refine SQ.op rfl rfl rfl (r_assign rfl rfl) ?_
              refine SQ.nil ?_
              refine C.code ?_
              refine W.ret ?_
              refine C.ret1 Tryd.results29 rfl ?_
              refine ⟨?_, hEw⟩
              first
                | (rw [writeR_pair (by assumption), hg0, hg1])
                | (rw [writeR_pre (by assumption) (by assumption), hg0, if_pos ⟨by assumption, by assumption⟩])
                | (rw [writeR_pre (by assumption) (by assumption), hg0, if_neg (by simp [*])])
                | (rw [writeR_int (by assumption) (by assumption) (by assumption)])
                | (rw [writeR_bool (by assumption) (by assumption) (by assumption)])
                | (rw [writeR_name (by assumption) (by assumption) (by assumption)])
                | (rw [writeR_if (by assumption) (by assumption) (by assumption) (by assumption) (by assumption), hg0, hg1, hg2])
            · intro hc148
              try simp only [decide_eq_true_eq, decide_eq_false_iff_not, Bool.not_eq_true', Bool.not_eq_false', Bool.not_true, Bool.not_false, Bool.not_eq_true, Bool.not_eq_false] at hc148
              refine W.skip ?_
              refine C.code ?_
              refine W.seq ?_
              refine W.region ?_
              refine SQ.op rfl rfl rfl (r_fieldAddr rfl rfl Tryd.underlying88 rfl Tryd.sizeOf9 rfl) ?_
              refine SQ.op rfl rfl rfl (r_load rfl rfl Tryd.isAgg9 (by first | exact hC0.cell rfl | exact hB1.cell rfl | exact hB6.cell rfl | assumption)) ?_
              refine SQ.op rfl rfl rfl (r_addStr rfl rfl rfl (by first | omega | (simp only [ByteArray.size_append, size_one, size_if, size_then, size_else]; omega))) ?_
              refine SQ.op rfl rfl rfl (r_move rfl rfl) ?_
              refine SQ.op rfl rfl rfl (r_addStr rfl rfl rfl (by first | omega | (simp only [ByteArray.size_append, size_one, size_if, size_then, size_else]; omega))) ?_
              refine SQ.op rfl rfl rfl (r_assign rfl rfl) ?_
              refine SQ.nil ?_
              refine C.code ?_
              refine W.ret ?_
              refine C.ret1 Tryd.results29 rfl ?_
              refine ⟨?_, hEw⟩
              first
                | (rw [writeR_pair (by assumption), hg0, hg1])
                | (rw [writeR_pre (by assumption) (by assumption), hg0, if_pos ⟨by assumption, by assumption⟩])
                | (rw [writeR_pre (by assumption) (by assumption), hg0, if_neg (by simp [*])])
                | (rw [writeR_int (by assumption) (by assumption) (by assumption)])
                | (rw [writeR_bool (by assumption) (by assumption) (by assumption)])
                | (rw [writeR_name (by assumption) (by assumption) (by assumption)])
                | (rw [writeR_if (by assumption) (by assumption) (by assumption) (by assumption) (by assumption), hg0, hg1, hg2])
          · intro hb8_3
            try simp only [decide_eq_true_eq, decide_eq_false_iff_not, Bool.not_eq_true', Bool.not_eq_false', Bool.not_true, Bool.not_false, Bool.not_eq_true, Bool.not_eq_false] at hb8_3
            refine SQ.skip rfl rfl rfl rfl rfl rfl rfl ?_
            refine SQ.skip rfl rfl rfl rfl rfl rfl rfl ?_
            refine SQ.skip rfl rfl rfl rfl rfl rfl rfl ?_
            refine SQ.skip rfl rfl rfl rfl rfl rfl rfl ?_
            refine SQ.skip rfl rfl rfl rfl rfl rfl rfl ?_
            refine SQ.op rfl rfl rfl (r_pick_f rfl rfl rfl) ?_
            refine SQ.nil ?_
            refine C.code ?_
            refine W.cond_f rfl ?_
            refine W.skip ?_
            refine C.code ?_
            refine W.seq ?_
            refine W.region ?_
            refine SQ.op rfl rfl rfl (r_fieldAddr rfl rfl Tryd.underlying88 rfl Tryd.sizeOf9 rfl) ?_
            refine SQ.op rfl rfl rfl (r_load rfl rfl Tryd.isAgg9 (by first | exact hC0.cell rfl | exact hB1.cell rfl | exact hB6.cell rfl | assumption)) ?_
            refine SQ.op rfl rfl rfl (r_addStr rfl rfl rfl (by first | omega | (simp only [ByteArray.size_append, size_one, size_if, size_then, size_else]; omega))) ?_
            refine SQ.op rfl rfl rfl (r_move rfl rfl) ?_
            refine SQ.op rfl rfl rfl (r_addStr rfl rfl rfl (by first | omega | (simp only [ByteArray.size_append, size_one, size_if, size_then, size_else]; omega))) ?_
            refine SQ.op rfl rfl rfl (r_assign rfl rfl) ?_
            refine SQ.nil ?_
            refine C.code ?_
            refine W.ret ?_
            refine C.ret1 Tryd.results29 rfl ?_
            refine ⟨?_, hEw⟩
            first
              | (rw [writeR_pair (by assumption), hg0, hg1])
              | (rw [writeR_pre (by assumption) (by assumption), hg0, if_pos ⟨by assumption, by assumption⟩])
              | (rw [writeR_pre (by assumption) (by assumption), hg0, if_neg (by simp [*])])
              | (rw [writeR_int (by assumption) (by assumption) (by assumption)])
              | (rw [writeR_bool (by assumption) (by assumption) (by assumption)])
              | (rw [writeR_name (by assumption) (by assumption) (by assumption)])
              | (rw [writeR_if (by assumption) (by assumption) (by assumption) (by assumption) (by assumption), hg0, hg1, hg2])
        · intro hc141
          try simp only [decide_eq_true_eq, decide_eq_false_iff_not, Bool.not_eq_true', Bool.not_eq_false', Bool.not_true, Bool.not_false, Bool.not_eq_true, Bool.not_eq_false] at hc141
          refine W.skip ?_
          refine C.code ?_
          refine W.seq ?_
          refine W.seq ?_
          refine W.region ?_
          refine SQ.op rfl rfl rfl (r_fieldAddr rfl rfl Tryd.underlying25 rfl Tryd.sizeOf22 rfl) ?_
          refine SQ.op rfl rfl rfl (r_load rfl rfl Tryd.isAgg22 (by first | exact hB1.cell rfl | exact hB6.cell rfl | assumption)) ?_
          refine SQ.nil ?_
          refine C.code ?_
          refine W.block ?_
          refine W.seq ?_
          refine W.region ?_
          refine SQ.op rfl rfl rfl (r_eqlInt rfl rfl rfl) ?_
          refine SQ.op rfl rfl rfl (r_assign rfl rfl) ?_
          refine SQ.nil ?_
          refine C.code ?_
          refine W.cond rfl ?_ ?_
          · intro hc149
            try simp only [decide_eq_true_eq, decide_eq_false_iff_not, Bool.not_eq_true', Bool.not_eq_false', Bool.not_true, Bool.not_false, Bool.not_eq_true, Bool.not_eq_false] at hc149
            refine W.seq ?_
            refine W.region ?_
            refine SQ.op rfl rfl rfl (r_fieldAddr rfl rfl Tryd.underlying25 rfl Tryd.sizeOf2 rfl) ?_
            refine SQ.op rfl rfl rfl (r_load rfl rfl Tryd.isAgg2 (by first | exact hB1.cell rfl | exact hB6.cell rfl | assumption)) ?_
            have hsz150 := hEw.size
            refine SQ.call rfl rfl rfl (rc_func rfl rfl Tryd.call49) (of_grow (Tryd.strconv_FormatInt_10 t.n hT.n.1 hT.n.2 _ hG.tab)) ?_
            rintro _ wv151 ⟨rfl, hE152⟩
            refine ⟨_, rfl, ?_⟩
            replace hB6 := hB6.ext hE152
            replace hB1 := hB1.ext hE152
            replace hT := hT.ext hE152
            replace hG := hG.ext hE152
            replace hEw := hEw.ext hE152
            refine SQ.op rfl rfl rfl (r_assign rfl rfl) ?_
            refine SQ.nil ?_
            refine C.code ?_
            refine W.ret ?_
            refine C.ret1 Tryd.results29 rfl ?_
            refine ⟨?_, hEw⟩
            first
              | (rw [writeR_pair (by assumption), hg0, hg1])
              | (rw [writeR_pre (by assumption) (by assumption), hg0, if_pos ⟨by assumption, by assumption⟩])
              | (rw [writeR_pre (by assumption) (by assumption), hg0, if_neg (by simp [*])])
              | (rw [writeR_int (by assumption) (by assumption) (by assumption)])
              | (rw [writeR_bool (by assumption) (by assumption) (by assumption)])
              | (rw [writeR_name (by assumption) (by assumption) (by assumption)])
              | (rw [writeR_if (by assumption) (by assumption) (by assumption) (by assumption) (by assumption), hg0, hg1, hg2])
          · intro hc149
            try simp only [decide_eq_true_eq, decide_eq_false_iff_not, Bool.not_eq_true', Bool.not_eq_false', Bool.not_true, Bool.not_false, Bool.not_eq_true, Bool.not_eq_false] at hc149
            refine W.seq ?_
            refine W.region ?_
            refine SQ.op rfl rfl rfl (r_eqlInt rfl rfl rfl) ?_
            refine SQ.op rfl rfl rfl (r_assign rfl rfl) ?_
            refine SQ.nil ?_
            refine C.code ?_
            refine W.cond rfl ?_ ?_
            · intro hc153
              try simp only [decide_eq_true_eq, decide_eq_false_iff_not, Bool.not_eq_true', Bool.not_eq_false', Bool.not_true, Bool.not_false, Bool.not_eq_true, Bool.not_eq_false] at hc153
              refine W.seq ?_
              refine W.region ?_
              refine SQ.op rfl rfl rfl (r_fieldAddr rfl rfl Tryd.underlying25 rfl Tryd.sizeOf2 rfl) ?_
              refine SQ.op rfl rfl rfl (r_load rfl rfl Tryd.isAgg2 (by first | exact hB1.cell rfl | exact hB6.cell rfl | assumption)) ?_
              refine SQ.op rfl rfl rfl (r_eqlInt rfl rfl rfl) ?_
              have hsz154 := hEw.size
              refine SQ.call rfl rfl rfl (rc_func rfl rfl Tryd.call50) (of_same (Tryd.strconv_FormatBool _ _)) ?_
              rintro _ wv155 ⟨rfl, hE156⟩
              refine ⟨_, rfl, ?_⟩
              replace hB6 := hB6.ext hE156
              replace hB1 := hB1.ext hE156
              replace hT := hT.ext hE156
              replace hG := hG.ext hE156
              replace hEw := hEw.ext hE156
              refine SQ.op rfl rfl rfl (r_assign rfl rfl) ?_
              refine SQ.nil ?_
              refine C.code ?_
              refine W.ret ?_
              refine C.ret1 Tryd.results29 rfl ?_
              refine ⟨?_, hEw⟩
              first
                | (rw [writeR_pair (by assumption), hg0, hg1])
                | (rw [writeR_pre (by assumption) (by assumption), hg0, if_pos ⟨by assumption, by assumption⟩])
                | (rw [writeR_pre (by assumption) (by assumption), hg0, if_neg (by simp [*])])
                | (rw [writeR_int (by assumption) (by assumption) (by assumption)])
                | (rw [writeR_bool (by assumption) (by assumption) (by assumption)])
                | (rw [writeR_name (by assumption) (by assumption) (by assumption)])
                | (rw [writeR_if (by assumption) (by assumption) (by assumption) (by assumption) (by assumption), hg0, hg1, hg2])
            · intro hc153
              try simp only [decide_eq_true_eq, decide_eq_false_iff_not, Bool.not_eq_true', Bool.not_eq_false', Bool.not_true, Bool.not_false, Bool.not_eq_true, Bool.not_eq_false] at hc153
              refine W.seq ?_
              refine W.region ?_
              refine SQ.op rfl rfl rfl (r_eqlInt rfl rfl rfl) ?_
              refine SQ.op rfl rfl rfl (r_assign rfl rfl) ?_
              refine SQ.nil ?_
              refine C.code ?_
              refine W.cond rfl ?_ ?_
              · intro hc157
                try simp only [decide_eq_true_eq, decide_eq_false_iff_not, Bool.not_eq_true', Bool.not_eq_false', Bool.not_true, Bool.not_false, Bool.not_eq_true, Bool.not_eq_false] at hc157
                refine W.seq ?_
                refine W.region ?_
                refine SQ.op rfl rfl rfl (r_fieldAddr rfl rfl Tryd.underlying25 rfl Tryd.sizeOf9 rfl) ?_
                refine SQ.op rfl rfl rfl (r_load rfl rfl Tryd.isAgg9 (by first | exact hB1.cell rfl | exact hB6.cell rfl | assumption)) ?_
                refine SQ.op rfl rfl rfl (r_assign rfl rfl) ?_
                refine SQ.nil ?_
                refine C.code ?_
                refine W.ret ?_
                refine C.ret1 Tryd.results29 rfl ?_
                refine ⟨?_, hEw⟩
                first
                  | (rw [writeR_pair (by assumption), hg0, hg1])
                  | (rw [writeR_pre (by assumption) (by assumption), hg0, if_pos ⟨by assumption, by assumption⟩])
                  | (rw [writeR_pre (by assumption) (by assumption), hg0, if_neg (by simp [*])])
                  | (rw [writeR_int (by assumption) (by assumption) (by assumption)])
                  | (rw [writeR_bool (by assumption) (by assumption) (by assumption)])
                  | (rw [writeR_name (by assumption) (by assumption) (by assumption)])
                  | (rw [writeR_if (by assumption) (by assumption) (by assumption) (by assumption) (by assumption), hg0, hg1, hg2])
              · intro hc157
                try simp only [decide_eq_true_eq, decide_eq_false_iff_not, Bool.not_eq_true', Bool.not_eq_false', Bool.not_true, Bool.not_false, Bool.not_eq_true, Bool.not_eq_false] at hc157
                refine W.skip ?_
                refine C.code ?_
                refine W.seq ?_
                have hlen : t.args.length = 3 := by have := hW.1; have := parts_if (by assumption : (findR pairsF t.op).2 = false) (by assumption : (findR prefixesF t.op).2 = false) (by assumption) (by assumption) (by assumption) (by omega); omega
                obtain ⟨ba, oa, x0, rfl, hx0, hC0, hT0, hSb0⟩ := hT.child (i := 0) (by omega)
                have hg0 := getD_of hx0
                have hw0 := hW.2 _ (List.mem_of_getElem? hx0)
                obtain ⟨ba1, oa1, x1, hA1, hx1, hC1, hT1, hSb1⟩ := hT.child (i := 1) (by omega)
                cases hA1
                have hg1 := getD_of hx1
                have hw1 := hW.2 _ (List.mem_of_getElem? hx1)
                obtain ⟨ba2, oa2, x2, hA2, hx2, hC2, hT2, hSb2⟩ := hT.child (i := 2) (by omega)
                cases hA2
                have hg2 := getD_of hx2
                have hw2 := hW.2 _ (List.mem_of_getElem? hx2)
                have hsz2 := hsz
                rw [writeR_if (by assumption) (by assumption) (by assumption) (by assumption) (by assumption)] at hsz2
                rw [hg0, hg1, hg2] at hsz2
                simp only [ByteArray.size_append, size_one, size_if, size_then, size_else] at hsz2
                have hp0 := partOf_size (writeR d x0.t) x0.t.op (0)
                have hp1 := partOf_size (writeR d x1.t) x1.t.op (0)
                have hp2 := partOf_size (writeR d x2.t) x2.t.op (0)
                refine W.quiet mixed (by kernel_rfl) ?_
                refine QZ.op rfl rfl rfl (fun w' hE => r_fieldAddr rfl rfl Tryd.underlying25 rfl Tryd.sizeOf23 rfl) ?_
                refine QZ.op rfl rfl rfl (fun w' hE => r_load rfl rfl Tryd.isAgg23 (hE.cell (by first | exact hC2.cell rfl | exact hC1.cell rfl | exact hC0.cell rfl | exact hB1.cell rfl | exact hB6.cell rfl | assumption))) ?_
                refine QZ.op rfl rfl rfl (fun w' hE => r_indexAddr rfl rfl rfl Tryd.underlying23 Tryd.sizeOf25 rfl (by omega) (j := 0)) ?_
                refine QZ.op rfl rfl rfl (fun w' hE => r_loadAgg rfl rfl Tryd.isAgg25 Tryd.sizeOf25 rfl (by first | exact (fun j v hv => hE.cell (hC2 j v hv)) | exact (fun j v hv => hE.cell (hC1 j v hv)) | exact (fun j v hv => hE.cell (hC0 j v hv)) | exact (fun j v hv => hE.cell (hB1.cells j v hv)) | exact (fun j v hv => hE.cell (hB6.cells j v hv)) | assumption)) ?_
                refine QZ.call rfl rfl rfl (fun w' hE => rc_func rfl rfl Tryd.call47) (fun w' hE => hE.calls (ih x0.t x0.A x0.c N _ w' (hT0.ext hE) (by have := hE.size; have := hEw.size; omega) hw0 (by omega) (hG.ext hE))) ?_
                refine QZ.op rfl rfl rfl (fun w' hE => r_addStr rfl rfl rfl (by first | omega | (simp only [ByteArray.size_append, size_one, size_if, size_then, size_else]; omega))) ?_
                refine QZ.op rfl rfl rfl (fun w' hE => r_addStr rfl rfl rfl (by first | omega | (simp only [ByteArray.size_append, size_one, size_if, size_then, size_else]; omega))) ?_
                refine QZ.op rfl rfl rfl (fun w' hE => r_fieldAddr rfl rfl Tryd.underlying25 rfl Tryd.sizeOf23 rfl) ?_
                refine QZ.op rfl rfl rfl (fun w' hE => r_load rfl rfl Tryd.isAgg23 (hE.cell (by first | exact hC2.cell rfl | exact hC1.cell rfl | exact hC0.cell rfl | exact hB1.cell rfl | exact hB6.cell rfl | assumption))) ?_
                refine QZ.op rfl rfl rfl (fun w' hE => r_indexAddr rfl rfl rfl Tryd.underlying23 Tryd.sizeOf25 rfl (by omega) (j := 1)) ?_
                refine QZ.op rfl rfl rfl (fun w' hE => r_loadAgg rfl rfl Tryd.isAgg25 Tryd.sizeOf25 rfl (by first | exact (fun j v hv => hE.cell (hC2 j v hv)) | exact (fun j v hv => hE.cell (hC1 j v hv)) | exact (fun j v hv => hE.cell (hC0 j v hv)) | exact (fun j v hv => hE.cell (hB1.cells j v hv)) | exact (fun j v hv => hE.cell (hB6.cells j v hv)) | assumption)) ?_
                refine QZ.call rfl rfl rfl (fun w' hE => rc_func rfl rfl Tryd.call47) (fun w' hE => hE.calls (ih x1.t x1.A x1.c N _ w' (hT1.ext hE) (by have := hE.size; have := hEw.size; omega) hw1 (by omega) (hG.ext hE))) ?_
                refine QZ.op rfl rfl rfl (fun w' hE => r_addStr rfl rfl rfl (by first | omega | (simp only [ByteArray.size_append, size_one, size_if, size_then, size_else]; omega))) ?_
                refine QZ.op rfl rfl rfl (fun w' hE => r_addStr rfl rfl rfl (by first | omega | (simp only [ByteArray.size_append, size_one, size_if, size_then, size_else]; omega))) ?_
                refine QZ.op rfl rfl rfl (fun w' hE => r_fieldAddr rfl rfl Tryd.underlying25 rfl Tryd.sizeOf23 rfl) ?_
                refine QZ.op rfl rfl rfl (fun w' hE => r_load rfl rfl Tryd.isAgg23 (hE.cell (by first | exact hC2.cell rfl | exact hC1.cell rfl | exact hC0.cell rfl | exact hB1.cell rfl | exact hB6.cell rfl | assumption))) ?_
                refine QZ.op rfl rfl rfl (fun w' hE => r_indexAddr rfl rfl rfl Tryd.underlying23 Tryd.sizeOf25 rfl (by omega) (j := 2)) ?_
                refine QZ.op rfl rfl rfl (fun w' hE => r_loadAgg rfl rfl Tryd.isAgg25 Tryd.sizeOf25 rfl (by first | exact (fun j v hv => hE.cell (hC2 j v hv)) | exact (fun j v hv => hE.cell (hC1 j v hv)) | exact (fun j v hv => hE.cell (hC0 j v hv)) | exact (fun j v hv => hE.cell (hB1.cells j v hv)) | exact (fun j v hv => hE.cell (hB6.cells j v hv)) | assumption)) ?_
                refine QZ.call rfl rfl rfl (fun w' hE => rc_func rfl rfl Tryd.call47) (fun w' hE => hE.calls (ih x2.t x2.A x2.c N _ w' (hT2.ext hE) (by have := hE.size; have := hEw.size; omega) hw2 (by omega) (hG.ext hE))) ?_
                refine QZ.op rfl rfl rfl (fun w' hE => r_addStr rfl rfl rfl (by first | omega | (simp only [ByteArray.size_append, size_one, size_if, size_then, size_else]; omega))) ?_
                refine QZ.op rfl rfl rfl (fun w' hE => r_assign rfl rfl) ?_
                refine QZ.nil ?_
                intro wv158 hE159
                replace hB6 := hB6.ext hE159
                replace hB1 := hB1.ext hE159
                replace hT := hT.ext hE159
                replace hG := hG.ext hE159
                replace hC0 := hC0.ext hE159
                replace hC1 := hC1.ext hE159
                replace hC2 := hC2.ext hE159
                replace hT0 := hT0.ext hE159
                replace hT1 := hT1.ext hE159
                replace hT2 := hT2.ext hE159
                replace hEw := hEw.ext hE159
                refine C.code ?_
                refine W.ret ?_
                refine C.ret1 Tryd.results29 rfl ?_
                refine ⟨?_, hEw⟩
                first
                  | (rw [writeR_pair (by assumption), hg0, hg1])
                  | (rw [writeR_pre (by assumption) (by assumption), hg0, if_pos ⟨by assumption, by assumption⟩])
                  | (rw [writeR_pre (by assumption) (by assumption), hg0, if_neg (by simp [*])])
                  | (rw [writeR_int (by assumption) (by assumption) (by assumption)])
                  | (rw [writeR_bool (by assumption) (by assumption) (by assumption)])
                  | (rw [writeR_name (by assumption) (by assumption) (by assumption)])
                  | (rw [writeR_if (by assumption) (by assumption) (by assumption) (by assumption) (by assumption), hg0, hg1, hg2])


end Go.Proofs.YtclokcmgigdjlaaDoor
