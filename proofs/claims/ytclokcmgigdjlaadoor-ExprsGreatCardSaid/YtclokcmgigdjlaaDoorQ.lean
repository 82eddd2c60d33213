/- Printed by this session's own program out of the translation, and by hand. -/
import Derived.Test.YtclokcmgigdjlaaDoorZ
set_option linter.unusedVariables false
set_option linter.unusedSimpArgs false
set_option maxRecDepth 4000
namespace Go.Proofs.YtclokcmgigdjlaaDoor
open Go.FL Go.RowKit Go.Proofs

/-! ### What may be: its parts, and how long it is as it is written -/
theorem foldC_all {f : Ex → Int → Bool × Int} : ∀ (l : List Ex) (a : Int), (foldC f l a).1 = true → ∀ x, x ∈ l → ∃ b, (f x b).1 = true
  | [], _, _, x, hx => by simp at hx
  | y :: r, a, h, x, hx => by
    unfold foldC at h
    split at h
    · rename_i hy
      rcases List.mem_cons.1 hx with rfl | hx
      · exact ⟨a, hy⟩
      · exact foldC_all r _ h x hx
    · cases h
theorem checkR_wf : ∀ d t a, (checkR d t a).1 = true → WF d t
  | 0, t, a, h => by simp [checkR] at h
  | d + 1, t, a, h => by
    unfold checkR at h
    split at h
    · cases h
    rename_i hg
    have hp : partsR t.op = (t.args.length : Int) := by omega
    have leaf : partsR t.op = 0 → WF (d + 1) t := fun h0 => ⟨hp, fun x hx => by
      have : t.args = [] := List.eq_nil_of_length_eq_zero (by omega)
      rw [this] at hx; simp at hx⟩
    split at h
    · rename_i h1; exact leaf (by rw [h1]; rfl)
    split at h
    · rename_i h1; exact leaf (by rw [h1]; rfl)
    split at h
    · rename_i h1; exact leaf (by rw [h1]; rfl)
    split at h
    · rename_i hf
      exact ⟨hp, fun x hx => by obtain ⟨b, hb⟩ := foldC_all _ _ hf x hx; exact checkR_wf d x b hb⟩
    · cases h
inductive Rng : Ex → Prop where
  | mk {o n : Int} {s : ByteArray} {l : List Ex} (h : -9223372036854775808 ≤ n ∧ n ≤ 9223372036854775807) (hx : ∀ x, x ∈ l → Rng x) : Rng (.mk o n s l)
theorem Rng.n {t : Ex} (h : Rng t) : -9223372036854775808 ≤ t.n ∧ t.n ≤ 9223372036854775807 := by cases h with | mk h _ => exact h
theorem Rng.child {t x : Ex} (h : Rng t) (hx : x ∈ t.args) : Rng x := by cases h with | mk _ h => exact h x hx
theorem Tr.rng {w : World} {S : Nat → Prop} {t : Ex} {A : Option Addr} {c : Nat} (h : Tr w S t A c) : Rng t := by
  induction h with
  | nil hn => exact .mk hn.2 (by simp)
  | node hn xs hl hS hC hx ih => exact .mk hn.2 (fun x hx' => by obtain ⟨y, hy, rfl⟩ := List.mem_map.1 hx'; exact ih y hy)
theorem nameB_size {s : ByteArray} (h : nameB s = true) : s.size ≤ 40 := by
  unfold nameB at h
  simp only [Bool.and_eq_true, decide_eq_true_eq] at h
  omega
theorem size_list' (l : List UInt8) : (⟨l.toArray⟩ : ByteArray).size = l.length := by simp [ByteArray.size]
theorem fold1 {f : Ex → Int → Bool × Int} {x : Ex} {a : Int} (h : (foldC f [x] a).1 = true) : (f x a).1 = true ∧ (foldC f [x] a).2 = (f x a).2 := by
  simp only [foldC] at h ⊢
  split at h
  · rename_i h1; exact ⟨h1, by rw [if_pos h1]⟩
  · cases h
theorem fold2 {f : Ex → Int → Bool × Int} {x y : Ex} {a : Int} (h : (foldC f [x, y] a).1 = true) : (f x a).1 = true ∧ (f y (f x a).2).1 = true ∧ (foldC f [x, y] a).2 = (f y (f x a).2).2 := by
  unfold foldC at h ⊢
  split at h
  · rename_i h1; rw [if_pos h1]; exact ⟨h1, fold1 h⟩
  · cases h
theorem fold3 {f : Ex → Int → Bool × Int} {x y z : Ex} {a : Int} (h : (foldC f [x, y, z] a).1 = true) : (f x a).1 = true ∧ (f y (f x a).2).1 = true ∧ (f z (f y (f x a).2).2).1 = true ∧ (foldC f [x, y, z] a).2 = (f z (f y (f x a).2).2).2 := by
  unfold foldC at h ⊢
  split at h
  · rename_i h1; rw [if_pos h1]; exact ⟨h1, fold2 h⟩
  · cases h
theorem checkR_size : ∀ d t a, (checkR d t a).1 = true → Rng t → 0 ≤ a → ((writeR d t).size : Int) ≤ 64 * (a - (checkR d t a).2)
  | 0, t, a, h, _, _ => by simp [checkR] at h
  | d + 1, t, a, h, hr, ha => by
    have hw := (checkR_wf _ _ _ h).1
    by_cases hg : a - 1 < 0 ∨ partsR t.op ≠ (t.args.length : Int)
    · rw [checkR_bad hg] at h; cases h
    have hp : partsR t.op = (t.args.length : Int) := hw
    have h0 : 0 ≤ a - 1 := by omega
    by_cases h1 : t.op = 1
    · rw [checkR_int h0 hp h1]
      rw [writeR_int (by rw [h1]; rfl) (by rw [h1]; rfl) h1, size_list']
      have := Lib.itoa_length_le t.n hr.n.1 hr.n.2
      dsimp only; omega
    by_cases h2 : t.op = 2
    · rw [checkR_bool h0 hp h2]
      rw [writeR_bool (by rw [h2]; rfl) (by rw [h2]; rfl) h2, size_list']
      have : (Lib.formatBool (decide (t.n = 1))).length ≤ 5 := by cases decide (t.n = 1) <;> decide
      dsimp only; omega
    by_cases h3 : t.op = 3
    · rw [checkR_name h0 hp h3] at h ⊢
      rw [writeR_name (by rw [h3]; rfl) (by rw [h3]; rfl) h3]
      simp only [Bool.and_eq_true] at h
      have := nameB_size h.2
      dsimp only; omega
    rw [checkR_node h0 hp h1 h2 h3] at h ⊢
    have hf : (foldC (checkR d) t.args (a - 1)).1 = true := by
      by_cases hf : (foldC (checkR d) t.args (a - 1)).1 = true
      · exact hf
      · rw [if_neg hf] at h; cases h
    rw [if_pos hf]
    dsimp only
    cases hb : (findR pairsF t.op).2 with
    | true =>
      have hl : t.args.length = 2 := by have := parts_pairs hb; omega
      obtain ⟨x, y, hxy⟩ : ∃ x y, t.args = [x, y] := by
        match hq : t.args, hl with
        | [x, y], _ => exact ⟨x, y, rfl⟩
      have hfit := pairs_fit t.op
      rw [writeR_pair hb]
      rw [hxy] at hf ⊢
      obtain ⟨f1, f2, f3⟩ := fold2 hf
      have r1 := checkR_range d x (a - 1) h0
      have s1 := checkR_size d x (a - 1) f1 (hr.child (by rw [hxy]; simp)) h0
      have s2 := checkR_size d y (checkR d x (a - 1)).2 f2 (hr.child (by rw [hxy]; simp)) (r1.2.2 f1)
      have p1 := partOf_size (writeR d x) x.op (asksR (findR pairsF t.op).1).1
      have p2 := partOf_size (writeR d y) y.op (asksR (findR pairsF t.op).1).2
      rw [f3]
      simp only [List.getD_cons_zero, List.getD_cons_succ, ByteArray.size_append, size_one]
      omega
    | false =>
      cases hc : (findR prefixesF t.op).2 with
      | true =>
        have hl : t.args.length = 1 := by have := parts_prefixes hc; omega
        obtain ⟨x, hxy⟩ : ∃ x, t.args = [x] := by
          match hq : t.args, hl with
          | [x], _ => exact ⟨x, rfl⟩
        have hfit := prefixes_fit t.op
        rw [writeR_pre hb hc]
        rw [hxy] at hf ⊢
        obtain ⟨f1, f3⟩ := fold1 hf
        have s1 := checkR_size d x (a - 1) f1 (hr.child (by rw [hxy]; simp)) h0
        have p1 := partOf_size (writeR d x) x.op 6
        rw [f3]
        simp only [List.getD_cons_zero]
        split <;> simp only [ByteArray.size_append, size_one] <;> omega
      | false =>
        have hl : t.args.length = 3 := by have := parts_if hb hc h1 h2 h3 (by omega); omega
        obtain ⟨x, y, z, hxy⟩ : ∃ x y z, t.args = [x, y, z] := by
          match hq : t.args, hl with
          | [x, y, z], _ => exact ⟨x, y, z, rfl⟩
        rw [writeR_if hb hc h1 h2 h3]
        rw [hxy] at hf ⊢
        obtain ⟨f1, f2, f3, f4⟩ := fold3 hf
        have r1 := checkR_range d x (a - 1) h0
        have r2 := checkR_range d y (checkR d x (a - 1)).2 (r1.2.2 f1)
        have s1 := checkR_size d x (a - 1) f1 (hr.child (by rw [hxy]; simp)) h0
        have s2 := checkR_size d y (checkR d x (a - 1)).2 f2 (hr.child (by rw [hxy]; simp)) (r1.2.2 f1)
        have s3 := checkR_size d z (checkR d y (checkR d x (a - 1)).2).2 f3 (hr.child (by rw [hxy]; simp)) (r2.2.2 f2)
        have p1 := partOf_size (writeR d x) x.op 0
        have p2 := partOf_size (writeR d y) y.op 0
        have p3 := partOf_size (writeR d z) z.op 0
        rw [f4]
        simp only [List.getD_cons_zero, List.getD_cons_succ, ByteArray.size_append, size_if, size_then, size_else]
        omega
theorem write_all : ∀ d, WriteAt d ∧ PartAt d
  | 0 => by
    have h : WriteAt 0 := fun t A c N w _ _ hW _ _ => hW.elim
    exact ⟨h, fun t A c N least w hT hN hW hsz hG => part_step 0 h t A c N least w hT hN hW hsz hG⟩
  | d + 1 => by
    have h : WriteAt (d + 1) := fun t A c N w hT hN hW hsz hG => write_step d (write_all d).2 t A c N w hT hN hW hsz hG
    exact ⟨h, fun t A c N least w hT hN hW hsz hG => part_step (d + 1) h t A c N least w hT hN hW hsz hG⟩
def textR (t : Ex) : ByteArray × Int := if checkB t = true then (writeR 32 t, 0) else (⟨#[]⟩, 1)

/-- belfry.exprs.Text -/
theorem Text_spec (t : Ex) (A : Option Addr) (c N : Nat) (w : World) (hT : Tr w (fun b => b < N) t A c) (hN : N ≤ w.heap.size) (hG : Gl w) :
    Calls Tryd.prog 17 #[.agg (t.cs A c).toArray] w fun e w' => e = .returned (.tuple #[.string (textR t).1, .int .i64 (textR t).2]) ∧ Ext w w' := by
  refine calls_of Tryd.func17 rfl Tryd.ntmps17 rfl ?_
  have hEw := Kp.refl (fun _ => False) w
  refine W.seq ?_
  refine W.region ?_
  have hsz5 := hEw.size
  refine SQ.new (v := (fun nb => .pointer (some ⟨nb, 0, none⟩))) rfl rfl rfl (r_box rfl rfl) ?_
  intro nb1 wv1 hge2 hlt3 hB1 hE4
  have hge_hG_hB1 := Nat.le_trans hG.size hge2
  replace hT := hT.ext hE4
  replace hG := hG.ext hE4
  replace hEw := hEw.ext hE4
  replace hB1 : Blk wv1 nb1 _ _ := hB1
  refine SQ.op rfl rfl rfl (r_assign rfl rfl) ?_
  refine SQ.op rfl rfl rfl (r_assign rfl rfl) ?_
  refine SQ.nil ?_
  refine C.code ?_
  refine W.seq ?_
  refine W.seq ?_
  refine W.region ?_
  refine SQ.op rfl rfl rfl (r_loadAgg rfl rfl Tryd.isAgg25 Tryd.sizeOf25 rfl (by first | exact hB1.cells | assumption)) ?_
  have hsz6 := hEw.size
  refine SQ.call rfl rfl rfl (rc_func rfl rfl Tryd.call15) (Check_spec t A c N _ hT (by have := hEw.size; omega)) ?_
  rintro _ wv7 ⟨rfl, hE8⟩
  refine ⟨_, rfl, ?_⟩
  replace hT := hT.ext hE8
  replace hG := hG.ext hE8
  replace hB1 := hB1.ext hE8
  replace hEw := hEw.ext hE8
  refine SQ.op rfl rfl rfl (r_not rfl rfl) ?_
  refine SQ.nil ?_
  refine C.code ?_
  refine W.cond rfl ?_ ?_
  · intro hc9
    try simp only [decide_eq_true_eq, decide_eq_false_iff_not, Bool.not_eq_true', Bool.not_eq_false', Bool.not_true, Bool.not_false, Bool.not_eq_true, Bool.not_eq_false] at hc9
    refine W.seq ?_
    refine W.region ?_
    refine SQ.op rfl rfl rfl (r_assign rfl rfl) ?_
    refine SQ.op rfl rfl rfl (r_assign rfl rfl) ?_
    refine SQ.nil ?_
    refine C.code ?_
    refine W.ret ?_
    refine C.ret2 Tryd.results17 rfl rfl ?_
    refine ⟨?_, hEw⟩
    unfold textR
    first | rw [if_pos (by assumption)] | rw [if_neg (by simp [*])]
  · intro hc9
    try simp only [decide_eq_true_eq, decide_eq_false_iff_not, Bool.not_eq_true', Bool.not_eq_false', Bool.not_true, Bool.not_false, Bool.not_eq_true, Bool.not_eq_false] at hc9
    refine W.skip ?_
    refine C.code ?_
    refine W.seq ?_
    refine W.region ?_
    refine SQ.op rfl rfl rfl (r_loadAgg rfl rfl Tryd.isAgg25 Tryd.sizeOf25 rfl (by first | exact hB1.cells | assumption)) ?_
    have hck : checkB t = true := by assumption
    have hcs := checkR_size 32 t 200 hck hT.rng (by decide)
    have hcr := checkR_range 32 t 200 (by decide)
    have hsz10 := hEw.size
    refine SQ.call rfl rfl rfl (rc_func rfl rfl Tryd.call29) ((write_all 32).1 t A c N _ hT (by have := hEw.size; omega) (checkR_wf 32 t 200 hck) (by omega) hG) ?_
    rintro _ wv11 ⟨rfl, hE12⟩
    refine ⟨_, rfl, ?_⟩
    replace hT := hT.ext hE12
    replace hG := hG.ext hE12
    replace hB1 := hB1.ext hE12
    replace hEw := hEw.ext hE12
    refine SQ.op rfl rfl rfl (r_assign rfl rfl) ?_
    refine SQ.op rfl rfl rfl (r_assign rfl rfl) ?_
    refine SQ.nil ?_
    refine C.code ?_
    refine W.ret ?_
    refine C.ret2 Tryd.results17 rfl rfl ?_
    refine ⟨?_, hEw⟩
    unfold textR
    first | rw [if_pos (by assumption)] | rw [if_neg (by simp [*])]

theorem parse1_yes (r nb7 nb4 nb5 nb6 : Nat) (L : Value) (a : Nat) (w : World) (ev : Int) (hP : Blk w nb7 [.pointer (some ⟨r, 0, none⟩)] 65) (hR : Blk w r [L, .int .i64 (a : Int)] 67)
    (hX : ∃ t A c, Blk w nb4 (Ex.cs t A c) 25) (hY : ∃ v : Int, Blk w nb5 [.int .i64 v] 3) (hZ : ∃ v : Int, Blk w nb6 [.int .i64 v] 38) (h1 : nb7 ≠ r) (h2 : nb4 < nb5) (h3 : nb5 < nb6) (h4 : nb6 < nb7) (h5 : nb6 < r) :
    CallsD Tryd.prog 26 #[.pointer (some ⟨nb7, 0, none⟩), .pointer (some ⟨nb4, 0, none⟩), .pointer (some ⟨nb5, 0, none⟩), .pointer (some ⟨nb6, 0, none⟩)] (.panicking (wrongV ev)) w fun e u' w' => e = .returned (.tuple #[]) ∧ settle u' = .returning ∧ Blk w' nb4 (exNone.cs none 0) 25 ∧ Blk w' nb5 [.int .i64 (a : Int)] 3 ∧ Blk w' nb6 [.int .i64 ev] 38 ∧ Kp (fun b => b = nb4 ∨ b = nb5 ∨ b = nb6) w w' := by
  obtain ⟨tx, Ax, cx, hX⟩ := hX
  obtain ⟨vy, hY⟩ := hY
  obtain ⟨vz, hZ⟩ := hZ
  have hKw := Kp.refl (fun b => b = nb4 ∨ b = nb5 ∨ b = nb6) w
  refine callsD_of Tryd.func26 rfl Tryd.ntmps26 rfl (fun c₀ cs₀ hm => ?_)
  show SS _ _ _ _ _ [0, 1, 2, 3, 4, 5, 6, 7] _ _
  refine SS.recover rfl rfl rfl rfl rfl (recoverD_yes hm) ?_
  refine SS.op rfl rfl rfl rfl (r_assertY rfl rfl Tryd.underlying69) ?_
  refine SS.op rfl rfl rfl rfl (r_move rfl rfl) ?_
  refine SS.op rfl rfl rfl rfl (r_extract rfl rfl rfl) ?_
  refine SS.op rfl rfl rfl rfl (r_extract rfl rfl rfl) ?_
  refine SS.new (v := (fun nb => .pointer (some ⟨nb, 0, none⟩))) rfl rfl rfl rfl (r_alloc rfl Tryd.zeroValue69) ?_
  intro nb w1 hge hlt hB4 hE
  have hlhP := Nat.lt_of_lt_of_le hP.lt hge
  replace hP := hP.ext hE
  have hlhR := Nat.lt_of_lt_of_le hR.lt hge
  replace hR := hR.ext hE
  have hlhX := Nat.lt_of_lt_of_le hX.lt hge
  replace hX := hX.ext hE
  have hlhY := Nat.lt_of_lt_of_le hY.lt hge
  replace hY := hY.ext hE
  have hlhZ := Nat.lt_of_lt_of_le hZ.lt hge
  replace hZ := hZ.ext hE
  replace hKw := hKw.ext hE
  replace hB4 : Blk w1 nb _ _ := hB4
  refine SS.storeA rfl rfl rfl rfl rfl rfl Tryd.sizeOf69 rfl hB4 ⟨rfl, rfl⟩ ?_
  intro w2 hn hK
  replace hP := hP.kp hK (by omega)
  replace hR := hR.kp hK (by omega)
  replace hX := hX.kp hK (by omega)
  replace hY := hY.kp hK (by omega)
  replace hZ := hZ.kp hK (by omega)
  replace hB4 : Blk w2 _ _ _ := hn
  clear hn
  have hsz := hlt
  replace hKw := hKw.new hK (by intro b hb; subst hb; exact hge)
  refine SS.op rfl rfl rfl rfl (r_assign rfl rfl) ?_
  refine SS.nil rfl ?_
  refine W.seq ?_
  refine W.region ?_
  refine SQ.op rfl rfl rfl (r_move rfl rfl) ?_
  refine SQ.nil ?_
  refine C.code ?_
  refine W.cond_t rfl ?_
  refine W.held (fun w' => Kp (fun b => b = nb4 ∨ b = nb5 ∨ b = nb6) w2 w') mixed ?_
  intro wv1 hE2 _
  have hS3 : Kp (fun b => b = nb4 ∨ b = nb5 ∨ b = nb6) w2 wv1 := hE2.to _
  have hXn := hX.ext hE2
  have hYn := hY.ext hE2
  have hZn := hZ.ext hE2
  refine AH.take 0 rfl (by kernel_rfl) (by kernel_rfl) (by kernel_rfl) PanOk.fn rfl rfl rfl hS3 (fun w' hS => r_build (pl := [(0, 1), (1, 1), (2, 1), (3, 1)]) rfl rfl Tryd.underlying25 Tryd.zeroValue25 (fun _ => by kernel_rfl) rfl rfl) ?_
  refine AH.take 1 rfl (by kernel_rfl) (by kernel_rfl) (by kernel_rfl) PanOk.fn rfl rfl rfl hS3 (fun w' hS => r_load rfl rfl Tryd.isAgg65 (by first | exact hS.cell (hB4.cell rfl) (by first | omega | (dsimp only; omega)) | exact hS.cell (hZ.cell rfl) (by first | omega | (dsimp only; omega)) | exact hS.cell (hY.cell rfl) (by first | omega | (dsimp only; omega)) | exact hS.cell (hX.cell rfl) (by first | omega | (dsimp only; omega)) | exact hS.cell (hR.cell rfl) (by first | omega | (dsimp only; omega)) | exact hS.cell (hP.cell rfl) (by first | omega | (dsimp only; omega)) | assumption)) ?_
  refine AH.take 2 rfl (by kernel_rfl) (by kernel_rfl) (by kernel_rfl) PanOk.fn rfl rfl rfl hS3 (fun w' hS => r_nilCheck rfl rfl) ?_
  refine AH.take 3 rfl (by kernel_rfl) (by kernel_rfl) (by kernel_rfl) PanOk.fn rfl rfl rfl hS3 (fun w' hS => r_fieldAddr rfl rfl Tryd.underlying67 rfl Tryd.sizeOf3 rfl) ?_
  refine AH.take 4 rfl (by kernel_rfl) (by kernel_rfl) (by kernel_rfl) PanOk.fn rfl rfl rfl hS3 (fun w' hS => r_load rfl rfl Tryd.isAgg3 (by first | exact hS.cell (hB4.cell rfl) (by first | omega | (dsimp only; omega)) | exact hS.cell (hZ.cell rfl) (by first | omega | (dsimp only; omega)) | exact hS.cell (hY.cell rfl) (by first | omega | (dsimp only; omega)) | exact hS.cell (hX.cell rfl) (by first | omega | (dsimp only; omega)) | exact hS.cell (hR.cell rfl) (by first | omega | (dsimp only; omega)) | exact hS.cell (hP.cell rfl) (by first | omega | (dsimp only; omega)) | assumption)) ?_
  refine AH.take 5 rfl (by kernel_rfl) (by kernel_rfl) (by kernel_rfl) PanOk.fn rfl rfl rfl hS3 (fun w' hS => r_fieldAddr rfl rfl Tryd.underlying69 rfl Tryd.sizeOf38 rfl) ?_
  refine AH.take 6 rfl (by kernel_rfl) (by kernel_rfl) (by kernel_rfl) PanOk.fn rfl rfl rfl hS3 (fun w' hS => r_load rfl rfl Tryd.isAgg38 (by first | exact hS.cell (hB4.cell rfl) (by first | omega | (dsimp only; omega)) | exact hS.cell (hZ.cell rfl) (by first | omega | (dsimp only; omega)) | exact hS.cell (hY.cell rfl) (by first | omega | (dsimp only; omega)) | exact hS.cell (hX.cell rfl) (by first | omega | (dsimp only; omega)) | exact hS.cell (hR.cell rfl) (by first | omega | (dsimp only; omega)) | exact hS.cell (hP.cell rfl) (by first | omega | (dsimp only; omega)) | assumption)) ?_
  refine AH.one 7 rfl (by kernel_rfl) rfl ?_
  refine OW.storeA rfl rfl rfl rfl Tryd.sizeOf25 rfl hXn ⟨rfl, rfl⟩ ?_
  intro wv4 hn7 hE5
  replace hYn := hYn.kp hE5 (by omega)
  replace hZn := hZn.kp hE5 (by omega)
  replace hXn : Blk wv4 _ _ _ := hn7
  clear hn7
  have hS6 : Kp (fun b => b = nb4 ∨ b = nb5 ∨ b = nb6) w2 wv4 := hS3.both (hE5.mono (by intro b _ hb; subst hb; simp))
  refine OW.next hS6 ?_
  refine AH.one 8 rfl (by kernel_rfl) rfl ?_
  refine OW.store rfl rfl rfl rfl Tryd.sizeOf3 rfl hYn rfl ?_
  intro wv8 hn11 hE9
  replace hXn := hXn.kp hE9 (by omega)
  replace hZn := hZn.kp hE9 (by omega)
  replace hYn : Blk wv8 _ _ _ := hn11
  clear hn11
  have hS10 : Kp (fun b => b = nb4 ∨ b = nb5 ∨ b = nb6) w2 wv8 := hS6.both (hE9.mono (by intro b _ hb; subst hb; simp))
  refine OW.next hS10 ?_
  refine AH.one 9 rfl (by kernel_rfl) rfl ?_
  refine OW.store rfl rfl rfl rfl Tryd.sizeOf38 rfl hZn rfl ?_
  intro wv12 hn15 hE13
  replace hXn := hXn.kp hE13 (by omega)
  replace hYn := hYn.kp hE13 (by omega)
  replace hZn : Blk wv12 _ _ _ := hn15
  clear hn15
  have hS14 : Kp (fun b => b = nb4 ∨ b = nb5 ∨ b = nb6) w2 wv12 := hS10.both (hE13.mono (by intro b _ hb; subst hb; simp))
  refine OW.next hS14 ?_
  refine AH.done (by kernel_rfl) ?_
  replace hP := hP.kp hS14 (by first | omega | (dsimp only; omega))
  replace hR := hR.kp hS14 (by first | omega | (dsimp only; omega))
  replace hB4 := hB4.kp hS14 (by first | omega | (dsimp only; omega))
  replace hKw := hKw.both hS14
  replace hX := hXn
  clear hXn
  replace hY := hYn
  clear hYn
  replace hZ := hZn
  clear hZn
  refine C.ret0 Tryd.results26 ?_
  exact ⟨rfl, rfl, hX, hY, hZ, hKw⟩

theorem parse1_no (r nb7 nb4 nb5 nb6 : Nat) (L : Value) (a : Nat) (w : World)  (hP : Blk w nb7 [.pointer (some ⟨r, 0, none⟩)] 65) (hR : Blk w r [L, .int .i64 (a : Int)] 67)
    (hX : ∃ t A c, Blk w nb4 (Ex.cs t A c) 25) (hY : ∃ v : Int, Blk w nb5 [.int .i64 v] 3) (hZ : ∃ v : Int, Blk w nb6 [.int .i64 v] 38) (h1 : nb7 ≠ r) (h2 : nb4 < nb5) (h3 : nb5 < nb6) (h4 : nb6 < nb7) (h5 : nb6 < r) :
    CallsD Tryd.prog 26 #[.pointer (some ⟨nb7, 0, none⟩), .pointer (some ⟨nb4, 0, none⟩), .pointer (some ⟨nb5, 0, none⟩), .pointer (some ⟨nb6, 0, none⟩)] .returning w fun e u' w' => e = .returned (.tuple #[]) ∧ settle u' = .returning ∧ Ext w w' := by
  obtain ⟨tx, Ax, cx, hX⟩ := hX
  obtain ⟨vy, hY⟩ := hY
  obtain ⟨vz, hZ⟩ := hZ
  have hKw := Kp.refl (fun _ => False) w
  refine callsD_of Tryd.func26 rfl Tryd.ntmps26 rfl (fun c₀ cs₀ hm => ?_)
  show SS _ _ _ _ _ [0, 1, 2, 3, 4, 5, 6, 7] _ _
  refine SS.recoverN rfl rfl rfl rfl rfl (recoverD_no hm) ?_
  refine SS.op rfl rfl rfl rfl (r_assertN rfl rfl Tryd.underlying69 Tryd.zeroValue69) ?_
  refine SS.op rfl rfl rfl rfl (r_move rfl rfl) ?_
  refine SS.op rfl rfl rfl rfl (r_extract rfl rfl rfl) ?_
  refine SS.op rfl rfl rfl rfl (r_extract rfl rfl rfl) ?_
  refine SS.new (v := (fun nb => .pointer (some ⟨nb, 0, none⟩))) rfl rfl rfl rfl (r_alloc rfl Tryd.zeroValue69) ?_
  intro nb w1 hge hlt hB4 hE
  have hlhP := Nat.lt_of_lt_of_le hP.lt hge
  replace hP := hP.ext hE
  have hlhR := Nat.lt_of_lt_of_le hR.lt hge
  replace hR := hR.ext hE
  have hlhX := Nat.lt_of_lt_of_le hX.lt hge
  replace hX := hX.ext hE
  have hlhY := Nat.lt_of_lt_of_le hY.lt hge
  replace hY := hY.ext hE
  have hlhZ := Nat.lt_of_lt_of_le hZ.lt hge
  replace hZ := hZ.ext hE
  replace hKw := hKw.ext hE
  replace hB4 : Blk w1 nb _ _ := hB4
  refine SS.storeA rfl rfl rfl rfl rfl rfl Tryd.sizeOf69 rfl hB4 ⟨rfl, rfl⟩ ?_
  intro w2 hn hK
  replace hP := hP.kp hK (by omega)
  replace hR := hR.kp hK (by omega)
  replace hX := hX.kp hK (by omega)
  replace hY := hY.kp hK (by omega)
  replace hZ := hZ.kp hK (by omega)
  replace hB4 : Blk w2 _ _ _ := hn
  clear hn
  have hsz := hlt
  replace hKw := hKw.new hK (by intro b hb; subst hb; exact hge)
  refine SS.op rfl rfl rfl rfl (r_assign rfl rfl) ?_
  refine SS.nil rfl ?_
  refine W.seq ?_
  refine W.region ?_
  refine SQ.op rfl rfl rfl (r_move rfl rfl) ?_
  refine SQ.nil ?_
  refine C.code ?_
  refine W.cond_f rfl ?_
  refine W.skip ?_
  refine C.ret0 Tryd.results26 ?_
  exact ⟨rfl, by rw [hm]; rfl, hKw⟩

def parseR (K : Nat) (ts : List Tok) : Ex × Nat × Int := match rankP ts K 0 0 with
  | .ok x a => if checkB x = true then (x, a, 0) else (exNone, 0, 3)
  | .bad e a => (exNone, a, e)
  | .oof => (exNone, 0, 0)
def ParsePost (w : World) (res : Ex × Nat × Int) (e : Ending) (w' : World) : Prop := ∃ A' c', e = .returned (.tuple #[.agg (res.1.cs A' c').toArray, .int .i64 (res.2.1 : Int), .int .i64 res.2.2]) ∧ Tr w' (fun b => w.heap.size ≤ b ∧ b < w'.heap.size) res.1 A' c' ∧ Ext w w'

/-- belfry.exprs.Parse -/
theorem Parse_spec (K : Nat) (ts : List Tok) (A : Option Addr) (c N : Nat) (w : World) (hK : TkAt w N A ts) (hN : N ≤ w.heap.size) (hn : ts.length ≤ 1000000000) (hs : ∀ k, k ∈ ts → k.t.size ≤ 1000000000000) (hG : Gl w) (hne : rankP ts K 0 0 ≠ .oof) :
    Calls Tryd.prog 14 #[.slice A ts.length c, .int .i64 0] w fun e w' => ParsePost w (parseR K ts) e w' := by
  have hGN := hG.size
  refine calls_ofD Tryd.func14 rfl Tryd.ntmps14 rfl ?_
  have hEw := Kp.refl (fun _ => False) w
  refine W.seq ?_
  refine W.region ?_
  have hsz5 := hEw.size
  refine SQ.new (v := (fun nb => .pointer (some ⟨nb, 0, none⟩))) rfl rfl rfl (r_alloc rfl Tryd.zeroValue25) ?_
  intro nb4 wv1 hge2 hlt3 hB4 hE4
  have hge_hG_hB4 := Nat.le_trans hG.size hge2
  replace hK := hK.ext hE4
  replace hG := hG.ext hE4
  replace hEw := hEw.ext hE4
  replace hB4 : Blk wv1 nb4 _ _ := hB4
  have hsz10 := hEw.size
  refine SQ.new (v := (fun nb => .pointer (some ⟨nb, 0, none⟩))) rfl rfl rfl (r_alloc rfl Tryd.zeroValue3) ?_
  intro nb5 wv6 hge7 hlt8 hB5 hE9
  have hge_hG_hB5 := Nat.le_trans hG.size hge7
  have hlt_hB4_hB5 := Nat.lt_of_lt_of_le hB4.lt hge7
  replace hK := hK.ext hE9
  replace hG := hG.ext hE9
  replace hB4 := hB4.ext hE9
  replace hEw := hEw.ext hE9
  replace hB5 : Blk wv6 nb5 _ _ := hB5
  have hsz15 := hEw.size
  refine SQ.new (v := (fun nb => .pointer (some ⟨nb, 0, none⟩))) rfl rfl rfl (r_alloc rfl Tryd.zeroValue38) ?_
  intro nb6 wv11 hge12 hlt13 hB6 hE14
  have hge_hG_hB6 := Nat.le_trans hG.size hge12
  have hlt_hB4_hB6 := Nat.lt_of_lt_of_le hB4.lt hge12
  have hlt_hB5_hB6 := Nat.lt_of_lt_of_le hB5.lt hge12
  replace hK := hK.ext hE14
  replace hG := hG.ext hE14
  replace hB4 := hB4.ext hE14
  replace hB5 := hB5.ext hE14
  replace hEw := hEw.ext hE14
  replace hB6 : Blk wv11 nb6 _ _ := hB6
  refine SQ.nil ?_
  refine C.code ?_
  refine W.seq ?_
  refine W.seq ?_
  refine W.region ?_
  refine SQ.op rfl rfl rfl (r_move rfl rfl) ?_
  refine SQ.opD false rfl rfl rfl (r_lss rfl rfl rfl) rfl ?_
  refine SQ.opD false rfl rfl rfl (r_move rfl rfl) rfl ?_
  refine SQ.guarded rfl rfl rfl rfl rfl ?_
  refine SQ.op rfl rfl rfl (r_move rfl rfl) ?_
  refine SQ.guarded rfl rfl rfl rfl rfl ?_
  refine SQ.op rfl rfl rfl (r_move rfl rfl) ?_
  refine SQ.guarded rfl rfl rfl rfl rfl ?_
  refine SQ.op rfl rfl rfl (r_lenSlice rfl rfl Tryd.underlying37) ?_
  refine SQ.guarded rfl rfl rfl rfl rfl ?_
  refine SQ.opD false rfl rfl rfl (r_gtr rfl rfl rfl) (by simp) ?_
  refine SQ.op rfl rfl rfl (r_pick_f rfl rfl rfl) ?_
  refine SQ.nil ?_
  refine C.code ?_
  refine W.cond_f rfl ?_
  refine W.skip ?_
  refine C.code ?_
  refine W.seq ?_
  refine W.region ?_
  refine SQ.op rfl rfl rfl (r_move rfl rfl) ?_
  refine SQ.op rfl rfl rfl (r_move rfl rfl) ?_
  refine SQ.op rfl rfl rfl (r_build (pl := [(0, 1), (1, 1)]) rfl rfl Tryd.underlying67 Tryd.zeroValue67 (fun _ => by kernel_rfl) rfl rfl) ?_
  have hsz20 := hEw.size
  refine SQ.new (v := (fun nb => .pointer (some ⟨nb, 0, none⟩))) rfl rfl rfl (r_box rfl rfl) ?_
  intro nb20 wv16 hge17 hlt18 hB20 hE19
  have hge_hG_hB20 := Nat.le_trans hG.size hge17
  have hlt_hB4_hB20 := Nat.lt_of_lt_of_le hB4.lt hge17
  have hlt_hB5_hB20 := Nat.lt_of_lt_of_le hB5.lt hge17
  have hlt_hB6_hB20 := Nat.lt_of_lt_of_le hB6.lt hge17
  replace hK := hK.ext hE19
  replace hG := hG.ext hE19
  replace hB4 := hB4.ext hE19
  replace hB5 := hB5.ext hE19
  replace hB6 := hB6.ext hE19
  replace hEw := hEw.ext hE19
  replace hB20 : Blk wv16 nb20 _ _ := hB20
  have hsz25 := hEw.size
  refine SQ.new (v := (fun nb => .pointer (some ⟨nb, 0, none⟩))) rfl rfl rfl (r_alloc rfl Tryd.zeroValue65) ?_
  intro nb7 wv21 hge22 hlt23 hB7 hE24
  have hge_hG_hB7 := Nat.le_trans hG.size hge22
  have hlt_hB4_hB7 := Nat.lt_of_lt_of_le hB4.lt hge22
  have hlt_hB5_hB7 := Nat.lt_of_lt_of_le hB5.lt hge22
  have hlt_hB6_hB7 := Nat.lt_of_lt_of_le hB6.lt hge22
  have hlt_hB20_hB7 := Nat.lt_of_lt_of_le hB20.lt hge22
  replace hK := hK.ext hE24
  replace hG := hG.ext hE24
  replace hB4 := hB4.ext hE24
  replace hB5 := hB5.ext hE24
  replace hB6 := hB6.ext hE24
  replace hB20 := hB20.ext hE24
  replace hEw := hEw.ext hE24
  replace hB7 : Blk wv21 nb7 _ _ := hB7
  refine SQ.store rfl rfl rfl rfl rfl Tryd.sizeOf65 rfl hB7 rfl ?_
  intro wv26 hS28 hK27
  have hsz29 := hK27.size
  replace hK := hK.kp hK27 (by intro b hb hs; omega)
  replace hG := hG.kp hK27 (by intro b hb hs; omega)
  replace hB4 := hB4.kp hK27 (by omega)
  replace hB5 := hB5.kp hK27 (by omega)
  replace hB6 := hB6.kp hK27 (by omega)
  replace hB20 := hB20.kp hK27 (by omega)
  replace hB7 : Blk wv26 _ _ _ := hS28
  clear hS28
  replace hEw := hEw.new hK27 (by intro b hb; subst hb; omega)
  refine SQ.nil ?_
  refine C.code ?_
  refine W.seq ?_
  refine W.region ?_
  refine SQ.op rfl rfl rfl (r_makeFunc rfl rfl rfl) ?_
  refine SQ.defer rfl rfl rfl rfl ?_
  intro dfr hd1 hd2
  refine SQ.nil ?_
  refine C.code ?_
  refine W.seq ?_
  refine W.region ?_
  refine SQ.op rfl rfl rfl (r_load rfl rfl Tryd.isAgg65 (by first | exact hB7.cell rfl | exact hB20.cell rfl | exact hB6.cell rfl | exact hB5.cell rfl | exact hB4.cell rfl | assumption)) ?_
  have hsz32 := hEw.size
  have hlt33 := hB4.lt
  have hlt34 := hB5.lt
  have hlt35 := hB6.lt
  have hlt36 := hB20.lt
  have hlt37 := hB7.lt
  rcases hres : rankP ts K 0 0 with ⟨x9, a9⟩ | ⟨e9, a9⟩ | _
  · refine SQ.call rfl rfl rfl (rc_func rfl rfl Tryd.call27) (rank_spec K ts A c nb20 N 0 0 _ ⟨hB20, hK, by omega, by omega, by omega, hn, hs, hG⟩ (by decide) (by decide) hne) ?_
    intro _ wv30 hpost
    rw [hres] at hpost
    obtain ⟨A9, c9, rfl, hT9, hR9, ha9, hK31⟩ := hpost
    refine ⟨_, rfl, ?_⟩
    replace hK := hK.kp hK31 (by intro b hb hs; omega)
    replace hG := hG.kp hK31 (by intro b hb hs; omega)
    replace hB4 := hB4.kp hK31 (by omega)
    replace hB5 := hB5.kp hK31 (by omega)
    replace hB6 := hB6.kp hK31 (by omega)
    replace hB7 := hB7.kp hK31 (by omega)
    replace hEw := hEw.new hK31 (by intro b hb; subst hb; omega)
    replace hB20 := hR9
    refine SQ.storeA rfl rfl rfl rfl rfl Tryd.sizeOf25 rfl hB4 ⟨rfl, rfl⟩ ?_
    intro wv38 hS40 hK39
    have hsz41 := hK39.size
    replace hK := hK.kp hK39 (by intro b hb hs; omega)
    replace hG := hG.kp hK39 (by intro b hb hs; omega)
    replace hB5 := hB5.kp hK39 (by omega)
    replace hB6 := hB6.kp hK39 (by omega)
    replace hB20 := hB20.kp hK39 (by omega)
    replace hB7 := hB7.kp hK39 (by omega)
    replace hT9 := hT9.kp hK39 (by intro b hb hs; omega)
    replace hB4 : Blk wv38 _ _ _ := hS40
    clear hS40
    replace hEw := hEw.new hK39 (by intro b hb; subst hb; omega)
    refine SQ.nil ?_
    refine C.code ?_
    refine W.seq ?_
    refine W.seq ?_
    refine W.region ?_
    refine SQ.op rfl rfl rfl (r_loadAgg rfl rfl Tryd.isAgg25 Tryd.sizeOf25 rfl (by first | exact hB7.cells | exact hB20.cells | exact hB6.cells | exact hB5.cells | exact hB4.cells | assumption)) ?_
    have hsz42 := hEw.size
    refine SQ.call rfl rfl rfl (rc_func rfl rfl Tryd.call15) (Check_spec x9 A9 c9 _ _ (hT9.mono (fun b hb => hb.2)) (by omega)) ?_
    rintro _ wv43 ⟨rfl, hE44⟩
    refine ⟨_, rfl, ?_⟩
    replace hK := hK.ext hE44
    replace hG := hG.ext hE44
    replace hB4 := hB4.ext hE44
    replace hB5 := hB5.ext hE44
    replace hB6 := hB6.ext hE44
    replace hB20 := hB20.ext hE44
    replace hB7 := hB7.ext hE44
    replace hT9 := hT9.ext hE44
    replace hEw := hEw.ext hE44
    have hszC := hE44.size
    refine SQ.opB rfl rfl rfl (r_not rfl rfl) ?_ ?_
    · intro hb6_2
      try simp only [decide_eq_true_eq, decide_eq_false_iff_not, Bool.not_eq_true', Bool.not_eq_false', Bool.not_true, Bool.not_false, Bool.not_eq_true, Bool.not_eq_false] at hb6_2
      refine SQ.nil ?_
      refine C.code ?_
      refine W.cond_t rfl ?_
      refine W.seq ?_
      refine W.region ?_
      refine SQ.op rfl rfl rfl (r_build (pl := [(0, 1), (1, 1), (2, 1), (3, 1)]) rfl rfl Tryd.underlying25 Tryd.zeroValue25 (fun _ => by kernel_rfl) rfl rfl) ?_
      refine SQ.op rfl rfl rfl (r_move rfl rfl) ?_
      refine SQ.storeA rfl rfl rfl rfl rfl Tryd.sizeOf25 rfl hB4 ⟨rfl, rfl⟩ ?_
      intro wv45 hS47 hK46
      have hsz48 := hK46.size
      replace hK := hK.kp hK46 (by intro b hb hs; omega)
      replace hG := hG.kp hK46 (by intro b hb hs; omega)
      replace hB5 := hB5.kp hK46 (by omega)
      replace hB6 := hB6.kp hK46 (by omega)
      replace hB20 := hB20.kp hK46 (by omega)
      replace hB7 := hB7.kp hK46 (by omega)
      replace hT9 := hT9.kp hK46 (by intro b hb hs; omega)
      replace hB4 : Blk wv45 _ _ _ := hS47
      clear hS47
      replace hEw := hEw.new hK46 (by intro b hb; subst hb; omega)
      refine SQ.store rfl rfl rfl rfl rfl Tryd.sizeOf3 rfl hB5 rfl ?_
      intro wv49 hS51 hK50
      have hsz52 := hK50.size
      replace hK := hK.kp hK50 (by intro b hb hs; omega)
      replace hG := hG.kp hK50 (by intro b hb hs; omega)
      replace hB4 := hB4.kp hK50 (by omega)
      replace hB6 := hB6.kp hK50 (by omega)
      replace hB20 := hB20.kp hK50 (by omega)
      replace hB7 := hB7.kp hK50 (by omega)
      replace hT9 := hT9.kp hK50 (by intro b hb hs; omega)
      replace hB5 : Blk wv49 _ _ _ := hS51
      clear hS51
      replace hEw := hEw.new hK50 (by intro b hb; subst hb; omega)
      refine SQ.store rfl rfl rfl rfl rfl Tryd.sizeOf38 rfl hB6 rfl ?_
      intro wv53 hS55 hK54
      have hsz56 := hK54.size
      replace hK := hK.kp hK54 (by intro b hb hs; omega)
      replace hG := hG.kp hK54 (by intro b hb hs; omega)
      replace hB4 := hB4.kp hK54 (by omega)
      replace hB5 := hB5.kp hK54 (by omega)
      replace hB20 := hB20.kp hK54 (by omega)
      replace hB7 := hB7.kp hK54 (by omega)
      replace hT9 := hT9.kp hK54 (by intro b hb hs; omega)
      replace hB6 : Blk wv53 _ _ _ := hS55
      clear hS55
      replace hEw := hEw.new hK54 (by intro b hb; subst hb; omega)
      refine SQ.nil ?_
      refine C.code ?_
      refine W.ret ?_
      refine C.dret1 hd1 hd2 Tryd.results14 Tryd.call26 ((parse1_no nb20 nb7 nb4 nb5 nb6 _ _ _ hB7 hB20 ⟨exNone, none, 0, hB4⟩ ⟨_, hB5⟩ ⟨_, hB6⟩ (by omega) (by omega) (by omega) (by omega) (by omega)).mono fun e u' w' ⟨h1, h2, h3⟩ => ⟨_, h1, h2, [_, _, _], ⟨⟨_, rfl, ld_agg Tryd.isAgg25 Tryd.sizeOf25 (hB4.ext h3) rfl⟩, ⟨_, rfl, ld_one Tryd.isAgg3 (hB5.ext h3) rfl⟩, ⟨_, rfl, ld_one Tryd.isAgg38 (hB6.ext h3) rfl⟩, trivial⟩, ?_⟩)
      have hp : parseR K ts = (exNone, 0, 3) := by unfold parseR; rw [hres]; exact if_neg (by simp [*])
      rw [hp]
      exact ⟨none, 0, rfl, .nil (by decide), hEw.ext h3⟩
    · intro hb6_2
      try simp only [decide_eq_true_eq, decide_eq_false_iff_not, Bool.not_eq_true', Bool.not_eq_false', Bool.not_true, Bool.not_false, Bool.not_eq_true, Bool.not_eq_false] at hb6_2
      refine SQ.nil ?_
      refine C.code ?_
      refine W.cond_f rfl ?_
      refine W.skip ?_
      refine C.code ?_
      refine W.seq ?_
      refine W.held (fun w' => Kp (fun b => b = nb4 ∨ b = nb5 ∨ b = nb6) wv43 w') mixed ?_
      intro wv57 hE58 _
      have hS59 : Kp (fun b => b = nb4 ∨ b = nb5 ∨ b = nb6) wv43 wv57 := hE58.to _
      have hB4n := hB4.ext hE58
      have hB5n := hB5.ext hE58
      have hB6n := hB6.ext hE58
      refine AH.take 1 rfl (by kernel_rfl) (by kernel_rfl) (by kernel_rfl) (DPan.ok Tryd.results14 rfl) rfl rfl rfl hS59 (fun w' hS => r_load rfl rfl Tryd.isAgg65 (by first | exact hS.cell (hB7.cell rfl) (by first | omega | (dsimp only; omega)) | exact hS.cell (hB20.cell rfl) (by first | omega | (dsimp only; omega)) | exact hS.cell (hB6.cell rfl) (by first | omega | (dsimp only; omega)) | exact hS.cell (hB5.cell rfl) (by first | omega | (dsimp only; omega)) | exact hS.cell (hB4.cell rfl) (by first | omega | (dsimp only; omega)) | assumption)) ?_
      refine AH.take 2 rfl (by kernel_rfl) (by kernel_rfl) (by kernel_rfl) (DPan.ok Tryd.results14 rfl) rfl rfl rfl hS59 (fun w' hS => r_nilCheck rfl rfl) ?_
      refine AH.take 3 rfl (by kernel_rfl) (by kernel_rfl) (by kernel_rfl) (DPan.ok Tryd.results14 rfl) rfl rfl rfl hS59 (fun w' hS => r_fieldAddr rfl rfl Tryd.underlying67 rfl Tryd.sizeOf3 rfl) ?_
      refine AH.take 4 rfl (by kernel_rfl) (by kernel_rfl) (by kernel_rfl) (DPan.ok Tryd.results14 rfl) rfl rfl rfl hS59 (fun w' hS => r_load rfl rfl Tryd.isAgg3 (by first | exact hS.cell (hB7.cell rfl) (by first | omega | (dsimp only; omega)) | exact hS.cell (hB20.cell rfl) (by first | omega | (dsimp only; omega)) | exact hS.cell (hB6.cell rfl) (by first | omega | (dsimp only; omega)) | exact hS.cell (hB5.cell rfl) (by first | omega | (dsimp only; omega)) | exact hS.cell (hB4.cell rfl) (by first | omega | (dsimp only; omega)) | assumption)) ?_
      refine AH.one 0 rfl (by kernel_rfl) rfl ?_
      refine OW.op rfl rfl (r_loadAgg rfl rfl Tryd.isAgg25 Tryd.sizeOf25 rfl (by first | exact hB6n.cells | exact hB5n.cells | exact hB4n.cells | assumption)) ?_
      refine OW.next hS59 ?_
      refine AH.one 5 rfl (by kernel_rfl) rfl ?_
      refine OW.storeA rfl rfl rfl rfl Tryd.sizeOf25 rfl hB4n ⟨rfl, rfl⟩ ?_
      intro wv63 hn66 hE64
      replace hB5n := hB5n.kp hE64 (by omega)
      replace hB6n := hB6n.kp hE64 (by omega)
      replace hB4n : Blk wv63 _ _ _ := hn66
      clear hn66
      have hS65 : Kp (fun b => b = nb4 ∨ b = nb5 ∨ b = nb6) wv43 wv63 := hS59.both (hE64.mono (by intro b _ hb; subst hb; simp))
      refine OW.next hS65 ?_
      refine AH.one 6 rfl (by kernel_rfl) rfl ?_
      refine OW.store rfl rfl rfl rfl Tryd.sizeOf3 rfl hB5n rfl ?_
      intro wv67 hn70 hE68
      replace hB4n := hB4n.kp hE68 (by omega)
      replace hB6n := hB6n.kp hE68 (by omega)
      replace hB5n : Blk wv67 _ _ _ := hn70
      clear hn70
      have hS69 : Kp (fun b => b = nb4 ∨ b = nb5 ∨ b = nb6) wv43 wv67 := hS65.both (hE68.mono (by intro b _ hb; subst hb; simp))
      refine OW.next hS69 ?_
      refine AH.one 7 rfl (by kernel_rfl) rfl ?_
      refine OW.store rfl rfl rfl rfl Tryd.sizeOf38 rfl hB6n rfl ?_
      intro wv71 hn74 hE72
      replace hB4n := hB4n.kp hE72 (by omega)
      replace hB5n := hB5n.kp hE72 (by omega)
      replace hB6n : Blk wv71 _ _ _ := hn74
      clear hn74
      have hS73 : Kp (fun b => b = nb4 ∨ b = nb5 ∨ b = nb6) wv43 wv71 := hS69.both (hE72.mono (by intro b _ hb; subst hb; simp))
      refine OW.next hS73 ?_
      refine AH.done (by kernel_rfl) ?_
      replace hK := hK.kp hS73 (by intro b hb hs; omega)
      replace hG := hG.kp hS73 (by intro b hb hs; omega)
      replace hB20 := hB20.kp hS73 (by first | omega | (dsimp only; omega))
      replace hB7 := hB7.kp hS73 (by first | omega | (dsimp only; omega))
      replace hT9 := hT9.kp hS73 (by intro b hb hs; omega)
      replace hEw := hEw.trans hS73 (fun _ _ h => h) (fun b hb h => by omega)
      replace hB4 := hB4n
      clear hB4n
      replace hB5 := hB5n
      clear hB5n
      replace hB6 := hB6n
      clear hB6n
      have hszP := hS73.size
      refine C.code ?_
      refine W.ret ?_
      refine C.dret1 hd1 hd2 Tryd.results14 Tryd.call26 ((parse1_no nb20 nb7 nb4 nb5 nb6 _ _ _ hB7 hB20 ⟨x9, A9, c9, hB4⟩ ⟨_, hB5⟩ ⟨_, hB6⟩ (by omega) (by omega) (by omega) (by omega) (by omega)).mono fun e u' w' ⟨h1, h2, h3⟩ => ⟨_, h1, h2, [_, _, _], ⟨⟨_, rfl, ld_agg Tryd.isAgg25 Tryd.sizeOf25 (hB4.ext h3) rfl⟩, ⟨_, rfl, ld_one Tryd.isAgg3 (hB5.ext h3) rfl⟩, ⟨_, rfl, ld_one Tryd.isAgg38 (hB6.ext h3) rfl⟩, trivial⟩, ?_⟩)
      have hp : parseR K ts = (x9, a9, 0) := by unfold parseR; rw [hres]; exact if_pos (by assumption)
      rw [hp]
      have hsz8 := hEw.size
      have hsz9 := h3.size
      have hl4 := hB4.lt
      exact ⟨_, _, rfl, (hT9.ext h3).mono (by intro b hb; omega), hEw.ext h3⟩
  · refine SQ.callP rfl rfl rfl (rc_func rfl rfl Tryd.call27) (rank_spec K ts A c nb20 N 0 0 _ ⟨hB20, hK, by omega, by omega, by omega, hn, hs, hG⟩ (by decide) (by decide) hne) ?_
    intro _ wv30 hpost
    rw [hres] at hpost
    obtain ⟨rfl, hR9, ha9, hK31⟩ := hpost
    refine .inr ⟨_, rfl, ?_⟩
    replace hB4 := hB4.kp hK31 (by omega)
    replace hB5 := hB5.kp hK31 (by omega)
    replace hB6 := hB6.kp hK31 (by omega)
    replace hB7 := hB7.kp hK31 (by omega)
    replace hEw := hEw.new hK31 (by intro b hb; subst hb; omega)
    refine C.dpan1 hd1 hd2 Tryd.results14 Tryd.call26 ((parse1_yes nb20 nb7 nb4 nb5 nb6 _ a9 _ e9 hB7 hR9 ⟨exNone, none, 0, hB4⟩ ⟨_, hB5⟩ ⟨_, hB6⟩ (by omega) (by omega) (by omega) (by omega) (by omega)).mono fun e u' w' ⟨h1, h2, h3, h4, h5, h6⟩ => ⟨_, h1, h2, [_, _, _], ⟨⟨_, rfl, ld_agg Tryd.isAgg25 Tryd.sizeOf25 h3 rfl⟩, ⟨_, rfl, ld_one Tryd.isAgg3 h4 rfl⟩, ⟨_, rfl, ld_one Tryd.isAgg38 h5 rfl⟩, trivial⟩, ?_⟩)
    have hp : parseR K ts = (exNone, a9, e9) := by unfold parseR; rw [hres]
    rw [hp]
    exact ⟨none, 0, rfl, .nil (by decide), hEw.new h6 (by intro b hb; omega)⟩
  · exact absurd hres hne


end Go.Proofs.YtclokcmgigdjlaaDoor
