/- Printed by this session's own program out of the translation, and by hand. -/
import Derived.Test.YtclokcmgigdjlaaDoorV
import Derived.Test.YtclokcmgigdjlaaDoorFlO
set_option linter.unusedVariables false
set_option linter.unusedSimpArgs false
set_option maxRecDepth 4000
namespace Go.Proofs.YtclokcmgigdjlaaDoor
open Go.FL Go.RowKit Go.Proofs

/-! ### A part that may not be -/
def oddLeaf (q : Nat) (t : Ex) : Ex :=
  if q % 5 = 0 then .mk t.op t.n t.nm (t.args ++ [.mk 2 0 ⟨#[]⟩ []])
  else if q % 5 = 1 then .mk t.op (-1) t.nm t.args
  else if q % 5 = 2 then .mk t.op t.n ⟨#[116, 104, 101, 110]⟩ t.args
  else if q % 5 = 3 then .mk 0 t.n t.nm t.args
  else .mk 20 t.n t.nm t.args
def oddR (q : Nat) : Nat → Ex → Nat → Ex
  | 0, t, _ => oddLeaf q t
  | k + 1, t, way => if 0 < t.args.length ∧ 0 < way then .mk t.op t.n t.nm (t.args.set (way % t.args.length) (oddR q k (t.args.getD (way % t.args.length) exNone) (way / 2))) else oddLeaf q t
theorem oddR_leaf {q k : Nat} {t : Ex} {way : Nat} (h : ¬ (0 < t.args.length ∧ 0 < way)) : oddR q k t way = oddLeaf q t := by
  cases k with
  | zero => rfl
  | succ k => rw [oddR, if_neg h]
theorem oddR_node {q k : Nat} {t : Ex} {way : Nat} (h : 0 < t.args.length) (h' : 0 < way) : oddR q (k + 1) t way = .mk t.op t.n t.nm (t.args.set (way % t.args.length) (oddR q k (t.args.getD (way % t.args.length) exNone) (way / 2))) := by rw [oddR, if_pos ⟨h, h'⟩]
theorem foldC_set {f : Ex → Int → Bool × Int} : ∀ (l : List Ex) (i : Nat) (a : Int) (y : Ex), i < l.length → (foldC f l a).1 = true → (∀ b, (f (l.getD i exNone) b).1 = true → (f y b).1 = false) → (foldC f (l.set i y) a).1 = false
  | [], _, _, _, h, _, _ => by simp at h
  | x :: r, 0, a, y, _, h, hy => by
    simp only [foldC] at h
    have hx : (f x a).1 = true := by
      by_cases e : (f x a).1 = true
      · exact e
      · rw [if_neg e] at h; cases h
    have := hy a (by simpa using hx)
    simp only [List.set_cons_zero, foldC, this]
    simp
  | x :: r, i + 1, a, y, hi, h, hy => by
    simp only [foldC] at h
    simp only [List.set_cons_succ, foldC]
    by_cases e : (f x a).1 = true
    · rw [if_pos e] at h ⊢
      exact foldC_set r i _ y (by simpa using hi) h (fun b hb => hy b (by simpa using hb))
    · rw [if_neg e]
theorem bad_n {d : Nat} {t : Ex} {a : Int} (h : t.n = -1) : (checkR (d + 1) t a).1 = false := by
  unfold checkR
  repeat' split
  all_goals simp [h]
theorem bad_nm {d : Nat} {t : Ex} {a : Int} (h : nameB t.nm = false) (h' : ¬ t.nm = ⟨#[]⟩) : (checkR (d + 1) t a).1 = false := by
  unfold checkR
  repeat' split
  all_goals simp [h, h']
theorem bad_node {d : Nat} {t : Ex} {a : Int} (h : (foldC (checkR d) t.args (a - 1)).1 = false) (h1 : t.op ≠ 1) (h2 : t.op ≠ 2) (h3 : t.op ≠ 3) : (checkR (d + 1) t a).1 = false := by
  unfold checkR
  repeat' split
  all_goals simp_all
theorem oddLeaf_bad (q d : Nat) (t : Ex) (a : Int) (h : (checkR (d + 1) t a).1 = true) : (checkR (d + 1) (oddLeaf q t) a).1 = false := by
  have hb : ¬ (a - 1 < 0 ∨ partsR t.op ≠ (t.args.length : Int)) := by
    intro e; rw [checkR_bad e] at h; cases h
  have h0 : partsR 0 = -1 := by decide
  have h20 : partsR 20 = -1 := by decide
  unfold oddLeaf
  split
  · rw [checkR_bad (.inr (show partsR t.op ≠ ((t.args ++ [_]).length : Int) from by simp only [List.length_append, List.length_singleton]; omega))]
  split
  · exact bad_n rfl
  split
  · exact bad_nm (show nameB ⟨#[116, 104, 101, 110]⟩ = false from by kernel_rfl) (show ¬ (⟨#[116, 104, 101, 110]⟩ : ByteArray) = ⟨#[]⟩ from by decide)
  split
  · rw [checkR_bad (t := .mk 0 t.n t.nm t.args) (.inr (show partsR 0 ≠ (t.args.length : Int) from by rw [h0]; omega))]
  · rw [checkR_bad (t := .mk 20 t.n t.nm t.args) (.inr (show partsR 20 ≠ (t.args.length : Int) from by rw [h20]; omega))]
theorem partsR_leaf {o : Int} (h : o = 1 ∨ o = 2 ∨ o = 3) : partsR o = 0 := by unfold partsR; rw [if_pos h]
theorem oddR_bad (q : Nat) : ∀ (k d : Nat) (t : Ex) (way : Nat) (a : Int), (checkR d t a).1 = true → (checkR d (oddR q k t way) a).1 = false
  | k, 0, t, way, a, h => by simp [checkR] at h
  | 0, d + 1, t, way, a, h => oddLeaf_bad q d t a h
  | k + 1, d + 1, t, way, a, h => by
    by_cases hc : 0 < t.args.length ∧ 0 < way
    · rw [oddR_node hc.1 hc.2]
      have hb : ¬ (a - 1 < 0 ∨ partsR t.op ≠ (t.args.length : Int)) := by
        intro e; rw [checkR_bad e] at h; cases h
      have h123 : ¬ (t.op = 1 ∨ t.op = 2 ∨ t.op = 3) := by
        intro e; have := partsR_leaf e; omega
      have h1 : t.op ≠ 1 := fun e => h123 (.inl e)
      have h2 : t.op ≠ 2 := fun e => h123 (.inr (.inl e))
      have h3 : t.op ≠ 3 := fun e => h123 (.inr (.inr e))
      rw [checkR_node (by omega) (by omega) h1 h2 h3] at h
      have hf : (foldC (checkR d) t.args (a - 1)).1 = true := by
        by_cases e : (foldC (checkR d) t.args (a - 1)).1 = true
        · exact e
        · rw [if_neg e] at h; cases h
      have hf' := foldC_set t.args (way % t.args.length) (a - 1) (oddR q k (t.args.getD (way % t.args.length) exNone) (way / 2)) (Nat.mod_lt _ hc.1) hf (fun b hb => oddR_bad q k d _ _ b hb)
      exact bad_node (t := .mk t.op t.n t.nm (t.args.set (way % t.args.length) (oddR q k (t.args.getD (way % t.args.length) exNone) (way / 2)))) hf' h1 h2 h3
    · rw [oddR_leaf hc]; exact oddLeaf_bad q d t a h
/-! ### All parts of a tree, as they lie -/
def Trs (w : World) (S : Nat → Prop) (xs : List Nd) : Prop := ∀ x, x ∈ xs → Tr w S x.t x.A x.c
theorem Trs.ext {w w' : World} {S : Nat → Prop} {xs : List Nd} (h : Trs w S xs) (hE : Ext w w') : Trs w' S xs := fun x hx => (h x hx).ext hE
theorem Trs.kp {w w' : World} {S X : Nat → Prop} {xs : List Nd} (h : Trs w S xs) (hK : Kp X w w') (hx : ∀ b, X b → ¬ S b) : Trs w' S xs := fun x hxs => (h x hxs).kp hK hx
theorem Trs.mono {w : World} {S S' : Nat → Prop} {xs : List Nd} (h : Trs w S xs) (hs : ∀ b, S b → S' b) : Trs w S' xs := fun x hx => (h x hx).mono hs
theorem Tr.all {w : World} {S : Nat → Prop} {t : Ex} {A : Option Addr} {c : Nat} (h : Tr w S t A c) (h0 : 0 < t.args.length) :
    ∃ (b o : Nat) (xs : List Nd), A = some ⟨b, o, none⟩ ∧ t.args = xs.map Nd.t ∧ xs.length = t.args.length ∧ Cl w b o (xs.flatMap Nd.cs) ∧ Trs w S xs ∧ S b := by
  cases h with
  | nil hn => simp [Ex.args] at h0
  | node hn xs hl hS hC hx => exact ⟨_, _, xs, rfl, rfl, by simp [Ex.args], hC, hx, hS⟩
theorem Tr.head {w : World} {S : Nat → Prop} {t : Ex} {A : Option Addr} {c : Nat} (h : Tr w S t A c) (op n : Int) (nm : ByteArray) (hn : nm.size ≤ 1000000000000 ∧ -9223372036854775808 ≤ n ∧ n ≤ 9223372036854775807) : Tr w S (.mk op n nm t.args) A c := by
  cases h with
  | nil _ => exact .nil hn
  | node _ xs hl hS hC hx => exact .node hn xs hl hS hC hx
theorem nd_cells (xs : List Nd) : ∀ u, u ∈ xs.flatMap Nd.cs → u.oneCell' = true := by
  intro u hu
  obtain ⟨x, _, hx⟩ := List.mem_flatMap.1 hu
  simp only [Nd.cs, Ex.cs, List.mem_cons, List.mem_nil_iff, or_false] at hx
  rcases hx with rfl | rfl | rfl | rfl <;> rfl
theorem nd_len (xs : List Nd) : (xs.flatMap Nd.cs).length = xs.length * 4 := by
  induction xs with
  | nil => rfl
  | cons x r ih => rw [List.flatMap_cons, List.length_append, ih]; simp [Nd.cs, Ex.cs, Nat.succ_mul]; omega
/-- A tree whose parts lie in a row of the call's own. -/
theorem Tr.row {w : World} {base : Nat} {e : TypeId} {v : Value} {m : Nat} {xs : List Nd} {S : Nat → Prop} {op n : Int} {nm : ByteArray} {A : Option Addr} {c : Nat} (hO : Ow w base e 4 v m (xs.flatMap Nd.cs)) (hv : v = .slice A m c) (hm : m = xs.length) (hn : nm.size ≤ 1000000000000 ∧ -9223372036854775808 ≤ n ∧ n ≤ 9223372036854775807)
    (hl : xs.length ≤ 1000000000000) (hS : ∀ b, base ≤ b → b < w.heap.size → S b) (hT : Trs w S xs) : Tr w S (.mk op n nm (xs.map Nd.t)) A c := by
  subst hv; subst hm
  rcases Nat.eq_zero_or_pos xs.length with h0 | h0
  · have : xs = [] := List.length_eq_zero_iff.1 h0
    subst this; exact .nil hn
  · obtain ⟨g, cap, hv, hb, _, hC⟩ := hO.cl h0
    have hlt := (hO.lt g (by rw [hv]; rfl)).2
    simp only [Value.slice.injEq] at hv
    obtain ⟨rfl, _, rfl⟩ := hv
    exact .node hn xs hl (hS g hb hlt) hC hT
/-- What odd leaves. -/
def OddPost (N : Nat) (w : World) (t' : Ex) (e : Ending) (w' : World) : Prop := ∃ A' c', e = .returned (.agg (t'.cs A' c').toArray) ∧ Tr w' (fun b => b < N ∨ w.heap.size ≤ b ∧ b < w'.heap.size) t' A' c' ∧ Ext w w'
def OddAt (q k : Nat) : Prop := ∀ (t : Ex) (A : Option Addr) (c N way : Nat) (w : World), Tr w (fun b => b < N) t A c → N ≤ w.heap.size → t.sz ≤ 1048576 → way < 2 ^ k → way ≤ 255 →
  Calls Tryd.prog 16 #[.agg (t.cs A c).toArray, .int .u8 (q : Int), .int .i64 (way : Int)] w (OddPost N w (oddR q k t way))

def ArgsAt (w : World) (t : Ex) (A : Option Addr) (N : Nat) (xs : List Nd) : Prop := 0 < t.args.length → ∃ b o, A = some ⟨b, o, none⟩ ∧ Cl w b o (xs.flatMap Nd.cs) ∧ b < N
theorem ArgsAt.ext {w w' : World} {t : Ex} {A : Option Addr} {N : Nat} {xs : List Nd} (h : ArgsAt w t A N xs) (hE : Ext w w') : ArgsAt w' t A N xs := fun h0 => let ⟨b, o, h1, h2, h3⟩ := h h0; ⟨b, o, h1, h2.ext hE, h3⟩
theorem ArgsAt.kp {w w' : World} {t : Ex} {A : Option Addr} {N : Nat} {xs : List Nd} {X : Nat → Prop} (h : ArgsAt w t A N xs) (hK : Kp X w w') (hx : ∀ b, X b → ¬ b < N) : ArgsAt w' t A N xs := fun h0 => let ⟨b, o, h1, h2, h3⟩ := h h0; ⟨b, o, h1, h2.kp hK (fun hX => hx b hX h3), h3⟩

/- belfry.belfrylaw05.odd -/
set_option maxHeartbeats 4000000 in
theorem odd_step (q k : Nat) (hq : q ≤ 255) (ih : ∀ k', k = k' + 1 → OddAt q k') (t : Ex) (A : Option Addr) (c N way : Nat) (w : World) (hT : Tr w (fun b => b < N) t A c) (hN : N ≤ w.heap.size) (hsz : t.sz ≤ 1048576) (hway : way < 2 ^ k) (hw8 : way ≤ 255) :
    Calls Tryd.prog 16 #[.agg (t.cs A c).toArray, .int .u8 (q : Int), .int .i64 (way : Int)] w fun e w' => OddPost N w (oddR q k t way) e w' := by
  have hnn : t.nm.size ≤ 1000000000000 ∧ -9223372036854775808 ≤ t.n ∧ t.n ≤ 9223372036854775807 := ⟨hT.nm, hT.n.1, hT.n.2⟩
  refine calls_of Tryd.func16 rfl Tryd.ntmps16 rfl ?_
  have hEw := Kp.refl (fun _ => False) w
  have hlen9 := hT.len
  have hszd := sz_def t
  by_cases hc : 0 < t.args.length ∧ 0 < way
  · obtain ⟨hlen0, hway0⟩ := hc
    obtain ⟨k, rfl⟩ : ∃ k', k = k' + 1 := by
      cases k with
      | zero => simp at hway; omega
      | succ k => exact ⟨k, rfl⟩
    have hkl : way % t.args.length < t.args.length := Nat.mod_lt _ hlen0
    obtain ⟨ba, oa, xs, rfl, hxa, hxl, hC, hTs, hSb⟩ := hT.all hlen0
    obtain ⟨xk, hxk⟩ : ∃ xk, xs[way % t.args.length]? = some xk := ⟨_, List.getElem?_eq_getElem (by omega)⟩
    have hak : t.args[way % t.args.length]? = some xk.t := by rw [hxa, List.getElem?_map]; rw [← hxa, hxk]; rfl
    replace ih := ih k rfl
    have hway2 : way / 2 < 2 ^ k := by rw [Nat.pow_succ] at hway; omega
    refine W.seq ?_
    refine W.region ?_
    have hsz5 := hEw.size
    refine SQ.new (v := (fun nb => .pointer (some ⟨nb, 0, none⟩))) rfl rfl rfl (r_box rfl rfl) ?_
    intro nb3 wv1 hge2 hlt3 hB3 hE4
    replace hTs := hTs.ext hE4
    replace hC := hC.ext hE4
    replace hEw := hEw.ext hE4
    replace hB3 : Blk wv1 nb3 _ _ := hB3
    have hsz10 := hEw.size
    refine SQ.new (v := (fun nb => .pointer (some ⟨nb, 0, none⟩))) rfl rfl rfl (r_alloc rfl Tryd.zeroValue25) ?_
    intro nb6 wv6 hge7 hlt8 hB6 hE9
    have hlt_hB3_hB6 := Nat.lt_of_lt_of_le hB3.lt hge7
    replace hTs := hTs.ext hE9
    replace hC := hC.ext hE9
    replace hB3 := hB3.ext hE9
    replace hEw := hEw.ext hE9
    replace hB6 : Blk wv6 nb6 _ _ := hB6
    refine SQ.nil ?_
    refine C.code ?_
    refine W.seq ?_
    refine W.seq ?_
    refine W.region ?_
    refine SQ.op rfl rfl rfl (r_fieldAddr rfl rfl Tryd.underlying25 rfl Tryd.sizeOf23 rfl) ?_
    refine SQ.op rfl rfl rfl (r_load rfl rfl Tryd.isAgg23 (by first | exact hB6.cell rfl | exact hB3.cell rfl | exact hC.cell rfl | assumption)) ?_
    refine SQ.op rfl rfl rfl (r_lenSlice rfl rfl Tryd.underlying23) ?_
    refine SQ.opD true rfl rfl rfl (r_gtr rfl rfl rfl) (decide_eq_true (by omega)) ?_
    refine SQ.op rfl rfl rfl (r_move rfl rfl) ?_
    refine SQ.guarded rfl rfl rfl rfl rfl ?_
    refine SQ.op rfl rfl rfl (r_move rfl rfl) ?_
    refine SQ.guarded rfl rfl rfl rfl rfl ?_
    refine SQ.opD true rfl rfl rfl (r_gtr rfl rfl rfl) (decide_eq_true (by omega)) ?_
    refine SQ.op rfl rfl rfl (r_pick_t rfl rfl rfl) ?_
    refine SQ.nil ?_
    refine C.code ?_
    refine W.cond_t rfl ?_
    refine W.seq ?_
    refine W.region ?_
    refine SQ.op rfl rfl rfl (r_move rfl rfl) ?_
    refine SQ.op rfl rfl rfl (r_fieldAddr rfl rfl Tryd.underlying25 rfl Tryd.sizeOf23 rfl) ?_
    refine SQ.op rfl rfl rfl (r_load rfl rfl Tryd.isAgg23 (by first | exact hB6.cell rfl | exact hB3.cell rfl | exact hC.cell rfl | assumption)) ?_
    refine SQ.op rfl rfl rfl (r_lenSlice rfl rfl Tryd.underlying23) ?_
    refine SQ.op rfl rfl rfl (r_rem rfl rfl rfl (by omega) rfl) ?_
    refine SQ.op rfl rfl rfl (r_assign rfl rfl) ?_
    refine SQ.nil ?_
    refine C.code ?_
    refine W.seq ?_
    refine W.region ?_
    refine SQ.op rfl rfl rfl (r_fieldAddr rfl rfl Tryd.underlying25 rfl Tryd.sizeOf23 rfl) ?_
    refine SQ.op rfl rfl rfl (r_load rfl rfl Tryd.isAgg23 (by first | exact hB6.cell rfl | exact hB3.cell rfl | exact hC.cell rfl | assumption)) ?_
    have hszc := hEw.size
    refine SQ.appendC (base := w.heap.size) (z := 4) (bytes := 56) rfl rfl rfl rfl Tryd.underlying23 Tryd.type25 rfl rfl rfl rfl rfl rfl rfl (Ow.nil _ _ _ _) hC (by rw [nd_len, hxl]) (nd_cells xs) (by omega) (by omega) rfl ?_
    intro vO wv11 hO hK12 hat
    rw [Nat.zero_add, List.nil_append] at hO
    obtain ⟨gO, capO, rfl, hgO, hcO, hCO⟩ := hO.cl hlen0
    have hgw := hat
    simp [Value.ownBlock] at hgw
    have hb3l := hB3.lt
    have hb6l := hB6.lt
    clear hat
    replace hK12 := hK12.mono (Y := fun _ => False) (fun b _ h => by simp [Value.ownBlock] at h)
    replace hTs := hTs.ext hK12
    replace hC := hC.ext hK12
    replace hB3 := hB3.ext hK12
    replace hB6 := hB6.ext hK12
    replace hEw := hEw.ext hK12
    have hCk := hCO.sub (g := Nd.cs) (z := 4) (fun _ => rfl) hxk
    refine SQ.op rfl rfl rfl (r_assign rfl rfl) ?_
    refine SQ.nil ?_
    refine C.code ?_
    refine W.seq ?_
    refine W.region ?_
    refine SQ.op rfl rfl rfl (r_move rfl rfl) ?_
    refine SQ.op rfl rfl rfl (r_move rfl rfl) ?_
    refine SQ.op rfl rfl rfl (r_move rfl rfl) ?_
    refine SQ.op rfl rfl rfl (r_move rfl rfl) ?_
    refine SQ.op rfl rfl rfl (r_indexAddr rfl rfl rfl Tryd.underlying23 Tryd.sizeOf25 rfl hkl) ?_
    refine SQ.op rfl rfl rfl (r_loadAgg rfl rfl Tryd.isAgg25 Tryd.sizeOf25 rfl (by first | exact hCk | exact hB6.cells | exact hB3.cells | assumption)) ?_
    refine SQ.op rfl rfl rfl (r_move rfl rfl) ?_
    refine SQ.op rfl rfl rfl (r_move rfl rfl) ?_
    refine SQ.op rfl rfl rfl (r_quo rfl rfl rfl (by decide) (w64e (c := ((way / 2 : Nat) : Int)) rfl (by omega))) ?_
    have hsz8 := hEw.size
    have hgl0 := (hO.lt gO rfl).2
    have hb3c := hB3.lt
    have hb6c := hB6.lt
    refine SQ.call rfl rfl rfl (rc_func rfl rfl Tryd.call16) (ih xk.t xk.A xk.c N (way / 2) _ (hTs xk (List.mem_of_getElem? hxk)) (by omega) (by have := Ex.child_sz hak; omega) (by omega) (by omega)) ?_
    rintro _ wv13 ⟨A9, c9, rfl, hT9, hE14⟩
    refine ⟨_, rfl, ?_⟩
    have hT9s := Sz.here wv13
    replace hTs := hTs.ext hE14
    replace hB3 := hB3.ext hE14
    replace hB6 := hB6.ext hE14
    replace hO := hO.ext hE14
    replace hEw := hEw.ext hE14
    obtain ⟨N8, N9, hN8, hN9, hT9⟩ : ∃ N8 N9, N8 = (World.heap wv11).size ∧ Sz N9 wv13 ∧ Tr wv13 (fun b => b < N ∨ N8 ≤ b ∧ b < N9) (oddR q k xk.t (way / 2)) A9 c9 := ⟨_, _, rfl, hT9s, hT9⟩
    rw [← hN8] at hgl0 hsz8 hb3c hb6c
    refine SQ.op rfl rfl rfl (r_indexAddr rfl rfl rfl Tryd.underlying23 Tryd.sizeOf25 rfl hkl) ?_
    have hgl := (hO.lt gO rfl).2
    refine SQ.storeRow (z := 4) (j := way % t.args.length) (vs := (oddR q k xk.t (way / 2)).cs A9 c9) rfl rfl rfl ?_ rfl Tryd.sizeOf25 (by intro u hu; exact nd_cells [⟨oddR q k xk.t (way / 2), A9, c9⟩] u (by simpa [Nd.cs] using hu)) hO rfl hkl ?_
    · show lk _ _ = _
      simp only [lk]
      first | rfl | simp
    intro wv15 hO2 hK16
    replace hTs := hTs.kp hK16 (by intro b hb hs; omega)
    replace hB3 := hB3.kp hK16 (by omega)
    replace hB6 := hB6.kp hK16 (by omega)
    replace hT9 := hT9.kp hK16 (by intro b hb hs; omega)
    replace hN9 := hN9.kp hK16 trivial
    rw [show List.take (way % t.args.length * 4) (List.flatMap Nd.cs xs) ++ (oddR q k xk.t (way / 2)).cs A9 c9 ++ List.drop (way % t.args.length * 4 + 4) (List.flatMap Nd.cs xs) = _ from flat_set Nd.cs 4 (fun _ => rfl) xs (way % t.args.length) ⟨oddR q k xk.t (way / 2), A9, c9⟩ (by omega)] at hO2
    replace hO := hO2
    clear hO2
    replace hEw := hEw.new hK16 (by intro b hb; subst hb; exact hgO)
    refine SQ.nil ?_
    refine C.code ?_
    refine W.seq ?_
    refine W.region ?_
    refine SQ.op rfl rfl rfl (r_move rfl rfl) ?_
    refine SQ.op rfl rfl rfl (r_fieldAddr rfl rfl Tryd.underlying25 rfl Tryd.sizeOf23 rfl) ?_
    refine SQ.store rfl rfl rfl rfl rfl Tryd.sizeOf23 rfl hB3 rfl ?_
    intro wv17 hS19 hK18
    have hsz20 := hK18.size
    replace hTs := hTs.kp hK18 (by intro b hb hs; omega)
    replace hB6 := hB6.kp hK18 (by omega)
    replace hO := hO.kp hK18 (by rintro _ rfl hq; simp [Value.ownBlock] at hq; omega)
    replace hT9 := hT9.kp hK18 (by intro b hb hs; omega)
    replace hN9 := hN9.kp hK18 trivial
    replace hB3 : Blk wv17 _ _ _ := hS19
    clear hS19
    replace hEw := hEw.new hK18 (by intro b hb; subst hb; omega)
    refine SQ.nil ?_
    refine C.code ?_
    refine W.seq ?_
    refine W.region ?_
    refine SQ.op rfl rfl rfl (r_loadAgg rfl rfl Tryd.isAgg25 Tryd.sizeOf25 rfl (by first | exact hB6.cells | exact hB3.cells | assumption)) ?_
    refine SQ.storeA rfl rfl rfl rfl rfl Tryd.sizeOf25 rfl hB6 ⟨rfl, rfl⟩ ?_
    intro wv21 hS23 hK22
    have hsz24 := hK22.size
    replace hTs := hTs.kp hK22 (by intro b hb hs; omega)
    replace hB3 := hB3.kp hK22 (by omega)
    replace hO := hO.kp hK22 (by rintro _ rfl hq; simp [Value.ownBlock] at hq; omega)
    replace hT9 := hT9.kp hK22 (by intro b hb hs; omega)
    replace hN9 := hN9.kp hK22 trivial
    replace hB6 : Blk wv21 _ _ _ := hS23
    clear hS23
    replace hEw := hEw.new hK22 (by intro b hb; subst hb; omega)
    refine SQ.nil ?_
    refine C.code ?_
    refine W.ret ?_
    refine C.retL (vs := [_]) Tryd.results16 ⟨⟨_, rfl, ld_agg Tryd.isAgg25 Tryd.sizeOf25 hB6 rfl⟩, trivial⟩ ?_
    rw [oddR_node hlen0 hway0]
    have hgd : t.args.getD (way % t.args.length) exNone = xk.t := by rw [List.getD_eq_getElem?_getD, hak]; rfl
    rw [hgd]
    have hT' := Tr.row (S := fun b => b < N ∨ w.heap.size ≤ b ∧ b < (World.heap wv21).size) (op := t.op) (n := t.n) (nm := t.nm) hO rfl (by simp [hxl]) hnn (by simp; omega) (fun b h1 h => .inr ⟨h1, h⟩) (fun x hx => by
      rcases List.mem_or_eq_of_mem_set hx with hx | rfl
      · exact (hTs x hx).mono (by intro b hb; exact .inl hb)
      · exact hT9.mono (by intro b hb; have := hN9.le; omega))
    rw [List.map_set, ← hxa] at hT'
    refine ⟨_, _, ?_, hT', hEw⟩
    simp [tupleOf, Ex.cs, Ex.op, Ex.n, Ex.nm, Ex.args]
  · obtain ⟨xs, hxa, hxl, hTs, hall⟩ : ∃ xs : List Nd, t.args = xs.map Nd.t ∧ xs.length = t.args.length ∧ Trs w (fun b => b < N) xs ∧ (0 < t.args.length → ∃ b o, A = some ⟨b, o, none⟩ ∧ Cl w b o (xs.flatMap Nd.cs) ∧ b < N) := by
      rcases Nat.eq_zero_or_pos t.args.length with h0 | h0
      · exact ⟨[], by simpa using List.length_eq_zero_iff.1 h0, h0.symm, (fun x hx => by cases hx), fun h => by omega⟩
      · obtain ⟨b, o, xs, h1, h2, h3, h4, h5, h6⟩ := hT.all h0
        exact ⟨xs, h2, h3, h5, fun _ => ⟨b, o, h1, h4, h6⟩⟩
    have hallK : ArgsAt w t A N xs := hall
    clear hall
    rcases Nat.eq_zero_or_pos t.args.length with hl0 | hl0
    · refine W.seq ?_
      refine W.region ?_
      have hsz29 := hEw.size
      refine SQ.new (v := (fun nb => .pointer (some ⟨nb, 0, none⟩))) rfl rfl rfl (r_box rfl rfl) ?_
      intro nb3 wv25 hge26 hlt27 hB3 hE28
      replace hT := hT.ext hE28
      replace hTs := hTs.ext hE28
      replace hallK := hallK.ext hE28
      replace hEw := hEw.ext hE28
      replace hB3 : Blk wv25 nb3 _ _ := hB3
      have hsz34 := hEw.size
      refine SQ.new (v := (fun nb => .pointer (some ⟨nb, 0, none⟩))) rfl rfl rfl (r_alloc rfl Tryd.zeroValue25) ?_
      intro nb6 wv30 hge31 hlt32 hB6 hE33
      have hlt_hB3_hB6 := Nat.lt_of_lt_of_le hB3.lt hge31
      replace hT := hT.ext hE33
      replace hTs := hTs.ext hE33
      replace hallK := hallK.ext hE33
      replace hB3 := hB3.ext hE33
      replace hEw := hEw.ext hE33
      replace hB6 : Blk wv30 nb6 _ _ := hB6
      refine SQ.nil ?_
      refine C.code ?_
      refine W.seq ?_
      refine W.seq ?_
      refine W.region ?_
      refine SQ.op rfl rfl rfl (r_fieldAddr rfl rfl Tryd.underlying25 rfl Tryd.sizeOf23 rfl) ?_
      refine SQ.op rfl rfl rfl (r_load rfl rfl Tryd.isAgg23 (by first | exact hB6.cell rfl | exact hB3.cell rfl | assumption)) ?_
      refine SQ.op rfl rfl rfl (r_lenSlice rfl rfl Tryd.underlying23) ?_
      refine SQ.opD false rfl rfl rfl (r_gtr rfl rfl rfl) (decide_eq_false (by omega)) ?_
      refine SQ.op rfl rfl rfl (r_move rfl rfl) ?_
      refine SQ.skip rfl rfl rfl rfl rfl rfl rfl ?_
      refine SQ.skip rfl rfl rfl rfl rfl rfl rfl ?_
      refine SQ.op rfl rfl rfl (r_pick_f rfl rfl rfl) ?_
      refine SQ.nil ?_
      refine C.code ?_
      refine W.cond_f rfl ?_
      refine W.skip ?_
      refine C.code ?_
      refine W.seq ?_
      refine W.seq ?_
      refine W.region ?_
      refine SQ.op rfl rfl rfl (r_move rfl rfl) ?_
      refine SQ.op rfl rfl rfl (r_rem rfl rfl rfl (by decide) (show ((q : Nat) : Int).tmod 5 = ((q % 5 : Nat) : Int) from rfl)) ?_
      refine SQ.nil ?_
      refine C.code ?_
      refine W.block ?_
      refine W.seq ?_
      refine W.region ?_
      refine SQ.op rfl rfl rfl (r_eqlInt rfl rfl rfl) ?_
      refine SQ.op rfl rfl rfl (r_assign rfl rfl) ?_
      refine SQ.nil ?_
      refine C.code ?_
      refine W.cond rfl ?_ ?_
      · intro hc35
        try simp only [decide_eq_true_eq, decide_eq_false_iff_not, Bool.not_eq_true', Bool.not_eq_false', Bool.not_true, Bool.not_false, Bool.not_eq_true, Bool.not_eq_false] at hc35
        refine W.region ?_
        refine SQ.op rfl rfl rfl (r_fieldAddr rfl rfl Tryd.underlying25 rfl Tryd.sizeOf23 rfl) ?_
        refine SQ.op rfl rfl rfl (r_load rfl rfl Tryd.isAgg23 (by first | exact hB6.cell rfl | exact hB3.cell rfl | assumption)) ?_
        have hszc := hEw.size
        rcases Nat.eq_zero_or_pos t.args.length with hl0 | hl0
        · refine SQ.op rfl rfl rfl (r_appendE rfl Tryd.underlying23 Tryd.sizeOf25 rfl (show ev _ _ = some (.slice A 0 c) from by rw [← hl0]; rfl) (Nat.le_refl _)) ?_
          have hO := Ow.nil wv30 w.heap.size 25 4
          have hxs0 : xs = [] := List.length_eq_zero_iff.1 (by omega)
          have hvO : (Value.slice none 0 0).ownBlock = none := rfl
          obtain ⟨vO, hvv, hO, hvb⟩ : ∃ vO, vO = Value.slice none 0 0 ∧ Ow wv30 w.heap.size 25 4 vO xs.length (xs.flatMap Nd.cs) ∧ True := ⟨_, rfl, by rw [hxs0]; exact hO, trivial⟩
          rw [← hvv]
          have hvb : ∀ b, vO.ownBlock = some b → nb3 < b ∧ nb6 < b := by rw [hvv]; intro b h; cases h
          have hlO0 := hO.lt
          refine SQ.op rfl rfl rfl (r_build (pl := [(0, 1), (1, 1), (2, 1), (3, 1)]) rfl rfl Tryd.underlying25 Tryd.zeroValue25 (fun _ => by kernel_rfl) rfl rfl) ?_
          have hsz42 := hEw.size
          refine SQ.new (v := (fun nb => .slice (some ⟨nb, 0, none⟩) 1 1)) rfl rfl rfl (r_buildSlice rfl rfl Tryd.underlying23 Tryd.sizeOf25 Tryd.zeroValue25 rfl rfl rfl rfl rfl) ?_
          intro nb48 wv38 hge39 hlt40 hB48 hE41
          have hlt_hB3_hB48 := Nat.lt_of_lt_of_le hB3.lt hge39
          have hlt_hB6_hB48 := Nat.lt_of_lt_of_le hB6.lt hge39
          replace hT := hT.ext hE41
          replace hTs := hTs.ext hE41
          replace hallK := hallK.ext hE41
          replace hB3 := hB3.ext hE41
          replace hB6 := hB6.ext hE41
          replace hO := hO.ext hE41
          replace hEw := hEw.ext hE41
          replace hB48 : Blk wv38 nb48 _ _ := hB48
          have hszb := hEw.size
          have hlO := hO.lt
          have hb3m := hB3.lt
          have hb6m := hB6.lt
          refine SQ.appendC (z := 4) (bytes := 56) rfl rfl rfl rfl Tryd.underlying23 Tryd.type25 rfl rfl rfl rfl rfl rfl rfl hO hB48.cells rfl (by intro u hu; exact nd_cells [⟨.mk 2 0 ⟨#[]⟩ [], none, 0⟩] u (by simpa [Nd.cs, Ex.cs, Ex.op, Ex.n, Ex.nm, Ex.args] using hu)) (by omega) (by omega) rfl ?_
          intro v2 wv43 hO2 hK44 hat2
          have hv2 : ∀ b, v2.ownBlock = some b → nb3 ≠ b ∧ nb6 ≠ b := by
            intro b hb
            rcases hat2 with h | h
            · rw [h] at hb; have := hvb b hb; omega
            · rw [h] at hb; cases hb; omega
          clear hat2
          replace hT := hT.kp hK44 (by intro b hb hs; have := hlO _ hb; omega)
          replace hTs := hTs.kp hK44 (by intro b hb hs; have := hlO _ hb; omega)
          replace hallK := hallK.kp hK44 (by intro b hb hs; have := hlO _ hb; omega)
          replace hB3 := hB3.kp hK44 (fun e => by have := hvb _ e; omega)
          replace hB6 := hB6.kp hK44 (fun e => by have := hvb _ e; omega)
          replace hB48 := hB48.kp hK44 (fun e => by have := hlO0 _ e; omega)
          replace hEw := hEw.new hK44 (by intro b hb; exact (hlO _ hb).1)
          replace hO := hO2
          clear hO2
          obtain ⟨A2, c2, rfl⟩ := hO.slice
          refine SQ.op rfl rfl rfl (r_fieldAddr rfl rfl Tryd.underlying25 rfl Tryd.sizeOf23 rfl) ?_
          refine SQ.store rfl rfl rfl rfl rfl Tryd.sizeOf23 rfl hB3 rfl ?_
          intro wv45 hS47 hK46
          have hsz48 := hK46.size
          replace hT := hT.kp hK46 (by intro b hb hs; omega)
          replace hTs := hTs.kp hK46 (by intro b hb hs; omega)
          replace hallK := hallK.kp hK46 (by intro b hb hs; omega)
          replace hB6 := hB6.kp hK46 (by omega)
          replace hO := hO.kp hK46 (by rintro _ rfl hq; have := hv2 _ hq; omega)
          replace hB3 : Blk wv45 _ _ _ := hS47
          clear hS47
          replace hEw := hEw.new hK46 (by intro b hb; subst hb; omega)
          refine SQ.nil ?_
          refine C.code ?_
          refine W.seq ?_
          refine W.region ?_
          refine SQ.op rfl rfl rfl (r_loadAgg rfl rfl Tryd.isAgg25 Tryd.sizeOf25 rfl (by first | exact hB6.cells | exact hB3.cells | assumption)) ?_
          refine SQ.storeA rfl rfl rfl rfl rfl Tryd.sizeOf25 rfl hB6 ⟨rfl, rfl⟩ ?_
          intro wv49 hS51 hK50
          have hsz52 := hK50.size
          replace hT := hT.kp hK50 (by intro b hb hs; omega)
          replace hTs := hTs.kp hK50 (by intro b hb hs; omega)
          replace hallK := hallK.kp hK50 (by intro b hb hs; omega)
          replace hB3 := hB3.kp hK50 (by omega)
          replace hO := hO.kp hK50 (by rintro _ rfl hq; have := hv2 _ hq; omega)
          replace hB6 : Blk wv49 _ _ _ := hS51
          clear hS51
          replace hEw := hEw.new hK50 (by intro b hb; subst hb; omega)
          refine SQ.nil ?_
          refine C.code ?_
          refine W.ret ?_
          refine C.retL (vs := [_]) Tryd.results16 ⟨⟨_, rfl, ld_agg Tryd.isAgg25 Tryd.sizeOf25 hB6 rfl⟩, trivial⟩ ?_
          rw [oddR_leaf hc]
          unfold oddLeaf
          rw [if_pos (by omega)]
          have hT' := Tr.row (S := fun b => b < N ∨ w.heap.size ≤ b ∧ b < (World.heap wv49).size) (xs := xs ++ [⟨.mk 2 0 ⟨#[]⟩ [], none, 0⟩]) (op := t.op) (n := t.n) (nm := t.nm) (by rw [List.flatMap_append]; exact hO) rfl (by simp) hnn (by simp; omega) (fun b h1 h => .inr ⟨h1, h⟩) (fun x hx => by
            rcases List.mem_append.1 hx with hx | hx
            · exact (hTs x hx).mono (by intro b hb; exact .inl hb)
            · simp only [List.mem_singleton] at hx; subst hx; exact .nil (by decide))
          rw [List.map_append, ← hxa] at hT'
          refine ⟨_, _, ?_, hT', hEw⟩
          simp [tupleOf, Ex.cs, Ex.op, Ex.n, Ex.nm, Ex.args, hxl]
        · obtain ⟨ba, oa, rfl, hC, hSb⟩ := hallK hl0
          refine SQ.appendC (base := w.heap.size) (z := 4) (bytes := 56) rfl rfl rfl rfl Tryd.underlying23 Tryd.type25 rfl rfl rfl rfl rfl rfl rfl (Ow.nil _ _ _ _) hC (by rw [nd_len, hxl]) (nd_cells xs) (by omega) (by omega) rfl ?_
          intro vO wv36 hO hK37 hat
          rw [Nat.zero_add, List.nil_append, ← hxl] at hO
          have hb3l := hB3.lt
          have hb6l := hB6.lt
          have hvb : ∀ b, vO.ownBlock = some b → nb3 < b ∧ nb6 < b := by
            intro b hb
            rcases hat with h | h
            · rw [h] at hb; cases hb
            · rw [h] at hb; cases hb; exact ⟨hb3l, hb6l⟩
          clear hat
          replace hK37 := hK37.mono (Y := fun _ => False) (fun b _ h => by simp [Value.ownBlock] at h)
          replace hT := hT.ext hK37
          replace hTs := hTs.ext hK37
          replace hallK := hallK.ext hK37
          replace hB3 := hB3.ext hK37
          replace hB6 := hB6.ext hK37
          replace hEw := hEw.ext hK37
          have hlO0 := hO.lt
          refine SQ.op rfl rfl rfl (r_build (pl := [(0, 1), (1, 1), (2, 1), (3, 1)]) rfl rfl Tryd.underlying25 Tryd.zeroValue25 (fun _ => by kernel_rfl) rfl rfl) ?_
          have hsz57 := hEw.size
          refine SQ.new (v := (fun nb => .slice (some ⟨nb, 0, none⟩) 1 1)) rfl rfl rfl (r_buildSlice rfl rfl Tryd.underlying23 Tryd.sizeOf25 Tryd.zeroValue25 rfl rfl rfl rfl rfl) ?_
          intro nb48 wv53 hge54 hlt55 hB48 hE56
          have hlt_hB3_hB48 := Nat.lt_of_lt_of_le hB3.lt hge54
          have hlt_hB6_hB48 := Nat.lt_of_lt_of_le hB6.lt hge54
          replace hT := hT.ext hE56
          replace hTs := hTs.ext hE56
          replace hallK := hallK.ext hE56
          replace hB3 := hB3.ext hE56
          replace hB6 := hB6.ext hE56
          replace hO := hO.ext hE56
          replace hEw := hEw.ext hE56
          replace hB48 : Blk wv53 nb48 _ _ := hB48
          have hszb := hEw.size
          have hlO := hO.lt
          have hb3m := hB3.lt
          have hb6m := hB6.lt
          refine SQ.appendC (z := 4) (bytes := 56) rfl rfl rfl rfl Tryd.underlying23 Tryd.type25 rfl rfl rfl rfl rfl rfl rfl hO hB48.cells rfl (by intro u hu; exact nd_cells [⟨.mk 2 0 ⟨#[]⟩ [], none, 0⟩] u (by simpa [Nd.cs, Ex.cs, Ex.op, Ex.n, Ex.nm, Ex.args] using hu)) (by omega) (by omega) rfl ?_
          intro v2 wv58 hO2 hK59 hat2
          have hv2 : ∀ b, v2.ownBlock = some b → nb3 ≠ b ∧ nb6 ≠ b := by
            intro b hb
            rcases hat2 with h | h
            · rw [h] at hb; have := hvb b hb; omega
            · rw [h] at hb; cases hb; omega
          clear hat2
          replace hT := hT.kp hK59 (by intro b hb hs; have := hlO _ hb; omega)
          replace hTs := hTs.kp hK59 (by intro b hb hs; have := hlO _ hb; omega)
          replace hallK := hallK.kp hK59 (by intro b hb hs; have := hlO _ hb; omega)
          replace hB3 := hB3.kp hK59 (fun e => by have := hvb _ e; omega)
          replace hB6 := hB6.kp hK59 (fun e => by have := hvb _ e; omega)
          replace hB48 := hB48.kp hK59 (fun e => by have := hlO0 _ e; omega)
          replace hEw := hEw.new hK59 (by intro b hb; exact (hlO _ hb).1)
          replace hO := hO2
          clear hO2
          obtain ⟨A2, c2, rfl⟩ := hO.slice
          refine SQ.op rfl rfl rfl (r_fieldAddr rfl rfl Tryd.underlying25 rfl Tryd.sizeOf23 rfl) ?_
          refine SQ.store rfl rfl rfl rfl rfl Tryd.sizeOf23 rfl hB3 rfl ?_
          intro wv60 hS62 hK61
          have hsz63 := hK61.size
          replace hT := hT.kp hK61 (by intro b hb hs; omega)
          replace hTs := hTs.kp hK61 (by intro b hb hs; omega)
          replace hallK := hallK.kp hK61 (by intro b hb hs; omega)
          replace hB6 := hB6.kp hK61 (by omega)
          replace hO := hO.kp hK61 (by rintro _ rfl hq; have := hv2 _ hq; omega)
          replace hB3 : Blk wv60 _ _ _ := hS62
          clear hS62
          replace hEw := hEw.new hK61 (by intro b hb; subst hb; omega)
          refine SQ.nil ?_
          refine C.code ?_
          refine W.seq ?_
          refine W.region ?_
          refine SQ.op rfl rfl rfl (r_loadAgg rfl rfl Tryd.isAgg25 Tryd.sizeOf25 rfl (by first | exact hB6.cells | exact hB3.cells | assumption)) ?_
          refine SQ.storeA rfl rfl rfl rfl rfl Tryd.sizeOf25 rfl hB6 ⟨rfl, rfl⟩ ?_
          intro wv64 hS66 hK65
          have hsz67 := hK65.size
          replace hT := hT.kp hK65 (by intro b hb hs; omega)
          replace hTs := hTs.kp hK65 (by intro b hb hs; omega)
          replace hallK := hallK.kp hK65 (by intro b hb hs; omega)
          replace hB3 := hB3.kp hK65 (by omega)
          replace hO := hO.kp hK65 (by rintro _ rfl hq; have := hv2 _ hq; omega)
          replace hB6 : Blk wv64 _ _ _ := hS66
          clear hS66
          replace hEw := hEw.new hK65 (by intro b hb; subst hb; omega)
          refine SQ.nil ?_
          refine C.code ?_
          refine W.ret ?_
          refine C.retL (vs := [_]) Tryd.results16 ⟨⟨_, rfl, ld_agg Tryd.isAgg25 Tryd.sizeOf25 hB6 rfl⟩, trivial⟩ ?_
          rw [oddR_leaf hc]
          unfold oddLeaf
          rw [if_pos (by omega)]
          have hT' := Tr.row (S := fun b => b < N ∨ w.heap.size ≤ b ∧ b < (World.heap wv64).size) (xs := xs ++ [⟨.mk 2 0 ⟨#[]⟩ [], none, 0⟩]) (op := t.op) (n := t.n) (nm := t.nm) (by rw [List.flatMap_append]; exact hO) rfl (by simp) hnn (by simp; omega) (fun b h1 h => .inr ⟨h1, h⟩) (fun x hx => by
            rcases List.mem_append.1 hx with hx | hx
            · exact (hTs x hx).mono (by intro b hb; exact .inl hb)
            · simp only [List.mem_singleton] at hx; subst hx; exact .nil (by decide))
          rw [List.map_append, ← hxa] at hT'
          refine ⟨_, _, ?_, hT', hEw⟩
          simp [tupleOf, Ex.cs, Ex.op, Ex.n, Ex.nm, Ex.args, hxl]
      · intro hc35
        try simp only [decide_eq_true_eq, decide_eq_false_iff_not, Bool.not_eq_true', Bool.not_eq_false', Bool.not_true, Bool.not_false, Bool.not_eq_true, Bool.not_eq_false] at hc35
        refine W.seq ?_
        refine W.region ?_
        refine SQ.op rfl rfl rfl (r_eqlInt rfl rfl rfl) ?_
        refine SQ.op rfl rfl rfl (r_assign rfl rfl) ?_
        refine SQ.nil ?_
        refine C.code ?_
        refine W.cond rfl ?_ ?_
        · intro hc68
          try simp only [decide_eq_true_eq, decide_eq_false_iff_not, Bool.not_eq_true', Bool.not_eq_false', Bool.not_true, Bool.not_false, Bool.not_eq_true, Bool.not_eq_false] at hc68
          refine W.region ?_
          refine SQ.op rfl rfl rfl (r_fieldAddr rfl rfl Tryd.underlying25 rfl Tryd.sizeOf2 rfl) ?_
          refine SQ.store rfl rfl rfl rfl rfl Tryd.sizeOf2 rfl hB3 rfl ?_
          intro wv69 hS71 hK70
          have hsz72 := hK70.size
          replace hT := hT.kp hK70 (by intro b hb hs; omega)
          replace hTs := hTs.kp hK70 (by intro b hb hs; omega)
          replace hallK := hallK.kp hK70 (by intro b hb hs; omega)
          replace hB6 := hB6.kp hK70 (by omega)
          replace hB3 : Blk wv69 _ _ _ := hS71
          clear hS71
          replace hEw := hEw.new hK70 (by intro b hb; subst hb; omega)
          refine SQ.nil ?_
          refine C.code ?_
          refine W.seq ?_
          refine W.region ?_
          refine SQ.op rfl rfl rfl (r_loadAgg rfl rfl Tryd.isAgg25 Tryd.sizeOf25 rfl (by first | exact hB6.cells | exact hB3.cells | assumption)) ?_
          refine SQ.storeA rfl rfl rfl rfl rfl Tryd.sizeOf25 rfl hB6 ⟨rfl, rfl⟩ ?_
          intro wv73 hS75 hK74
          have hsz76 := hK74.size
          replace hT := hT.kp hK74 (by intro b hb hs; omega)
          replace hTs := hTs.kp hK74 (by intro b hb hs; omega)
          replace hallK := hallK.kp hK74 (by intro b hb hs; omega)
          replace hB3 := hB3.kp hK74 (by omega)
          replace hB6 : Blk wv73 _ _ _ := hS75
          clear hS75
          replace hEw := hEw.new hK74 (by intro b hb; subst hb; omega)
          refine SQ.nil ?_
          refine C.code ?_
          refine W.ret ?_
          refine C.retL (vs := [_]) Tryd.results16 ⟨⟨_, rfl, ld_agg Tryd.isAgg25 Tryd.sizeOf25 hB6 rfl⟩, trivial⟩ ?_
          rw [oddR_leaf hc]
          unfold oddLeaf
          rw [if_neg (by omega), if_pos (by omega)]
          have hT' := (hT.head t.op (-1) t.nm ⟨by first | exact hnn.1 | decide, by first | exact hnn.2.1 | decide, by first | exact hnn.2.2 | decide⟩).mono (S' := fun b => b < N ∨ w.heap.size ≤ b ∧ b < (World.heap wv73).size) (by intro b hb; exact .inl hb)
          refine ⟨_, _, ?_, hT', hEw⟩
          simp [tupleOf, Ex.cs, Ex.op, Ex.n, Ex.nm, Ex.args]
        · intro hc68
          try simp only [decide_eq_true_eq, decide_eq_false_iff_not, Bool.not_eq_true', Bool.not_eq_false', Bool.not_true, Bool.not_false, Bool.not_eq_true, Bool.not_eq_false] at hc68
          refine W.seq ?_
          refine W.region ?_
          refine SQ.op rfl rfl rfl (r_eqlInt rfl rfl rfl) ?_
          refine SQ.op rfl rfl rfl (r_assign rfl rfl) ?_
          refine SQ.nil ?_
          refine C.code ?_
          refine W.cond rfl ?_ ?_
          · intro hc77
            try simp only [decide_eq_true_eq, decide_eq_false_iff_not, Bool.not_eq_true', Bool.not_eq_false', Bool.not_true, Bool.not_false, Bool.not_eq_true, Bool.not_eq_false] at hc77
            refine W.region ?_
            refine SQ.op rfl rfl rfl (r_fieldAddr rfl rfl Tryd.underlying25 rfl Tryd.sizeOf9 rfl) ?_
            refine SQ.store rfl rfl rfl rfl rfl Tryd.sizeOf9 rfl hB3 rfl ?_
            intro wv78 hS80 hK79
            have hsz81 := hK79.size
            replace hT := hT.kp hK79 (by intro b hb hs; omega)
            replace hTs := hTs.kp hK79 (by intro b hb hs; omega)
            replace hallK := hallK.kp hK79 (by intro b hb hs; omega)
            replace hB6 := hB6.kp hK79 (by omega)
            replace hB3 : Blk wv78 _ _ _ := hS80
            clear hS80
            replace hEw := hEw.new hK79 (by intro b hb; subst hb; omega)
            refine SQ.nil ?_
            refine C.code ?_
            refine W.seq ?_
            refine W.region ?_
            refine SQ.op rfl rfl rfl (r_loadAgg rfl rfl Tryd.isAgg25 Tryd.sizeOf25 rfl (by first | exact hB6.cells | exact hB3.cells | assumption)) ?_
            refine SQ.storeA rfl rfl rfl rfl rfl Tryd.sizeOf25 rfl hB6 ⟨rfl, rfl⟩ ?_
            intro wv82 hS84 hK83
            have hsz85 := hK83.size
            replace hT := hT.kp hK83 (by intro b hb hs; omega)
            replace hTs := hTs.kp hK83 (by intro b hb hs; omega)
            replace hallK := hallK.kp hK83 (by intro b hb hs; omega)
            replace hB3 := hB3.kp hK83 (by omega)
            replace hB6 : Blk wv82 _ _ _ := hS84
            clear hS84
            replace hEw := hEw.new hK83 (by intro b hb; subst hb; omega)
            refine SQ.nil ?_
            refine C.code ?_
            refine W.ret ?_
            refine C.retL (vs := [_]) Tryd.results16 ⟨⟨_, rfl, ld_agg Tryd.isAgg25 Tryd.sizeOf25 hB6 rfl⟩, trivial⟩ ?_
            rw [oddR_leaf hc]
            unfold oddLeaf
            rw [if_neg (by omega), if_neg (by omega), if_pos (by omega)]
            have hT' := (hT.head t.op t.n ⟨#[116, 104, 101, 110]⟩ ⟨by first | exact hnn.1 | decide, by first | exact hnn.2.1 | decide, by first | exact hnn.2.2 | decide⟩).mono (S' := fun b => b < N ∨ w.heap.size ≤ b ∧ b < (World.heap wv82).size) (by intro b hb; exact .inl hb)
            refine ⟨_, _, ?_, hT', hEw⟩
            simp [tupleOf, Ex.cs, Ex.op, Ex.n, Ex.nm, Ex.args]
          · intro hc77
            try simp only [decide_eq_true_eq, decide_eq_false_iff_not, Bool.not_eq_true', Bool.not_eq_false', Bool.not_true, Bool.not_false, Bool.not_eq_true, Bool.not_eq_false] at hc77
            refine W.seq ?_
            refine W.region ?_
            refine SQ.op rfl rfl rfl (r_eqlInt rfl rfl rfl) ?_
            refine SQ.op rfl rfl rfl (r_assign rfl rfl) ?_
            refine SQ.nil ?_
            refine C.code ?_
            refine W.cond rfl ?_ ?_
            · intro hc86
              try simp only [decide_eq_true_eq, decide_eq_false_iff_not, Bool.not_eq_true', Bool.not_eq_false', Bool.not_true, Bool.not_false, Bool.not_eq_true, Bool.not_eq_false] at hc86
              refine W.region ?_
              refine SQ.op rfl rfl rfl (r_fieldAddr rfl rfl Tryd.underlying25 rfl Tryd.sizeOf22 rfl) ?_
              refine SQ.store rfl rfl rfl rfl rfl Tryd.sizeOf22 rfl hB3 rfl ?_
              intro wv87 hS89 hK88
              have hsz90 := hK88.size
              replace hT := hT.kp hK88 (by intro b hb hs; omega)
              replace hTs := hTs.kp hK88 (by intro b hb hs; omega)
              replace hallK := hallK.kp hK88 (by intro b hb hs; omega)
              replace hB6 := hB6.kp hK88 (by omega)
              replace hB3 : Blk wv87 _ _ _ := hS89
              clear hS89
              replace hEw := hEw.new hK88 (by intro b hb; subst hb; omega)
              refine SQ.nil ?_
              refine C.code ?_
              refine W.seq ?_
              refine W.region ?_
              refine SQ.op rfl rfl rfl (r_loadAgg rfl rfl Tryd.isAgg25 Tryd.sizeOf25 rfl (by first | exact hB6.cells | exact hB3.cells | assumption)) ?_
              refine SQ.storeA rfl rfl rfl rfl rfl Tryd.sizeOf25 rfl hB6 ⟨rfl, rfl⟩ ?_
              intro wv91 hS93 hK92
              have hsz94 := hK92.size
              replace hT := hT.kp hK92 (by intro b hb hs; omega)
              replace hTs := hTs.kp hK92 (by intro b hb hs; omega)
              replace hallK := hallK.kp hK92 (by intro b hb hs; omega)
              replace hB3 := hB3.kp hK92 (by omega)
              replace hB6 : Blk wv91 _ _ _ := hS93
              clear hS93
              replace hEw := hEw.new hK92 (by intro b hb; subst hb; omega)
              refine SQ.nil ?_
              refine C.code ?_
              refine W.ret ?_
              refine C.retL (vs := [_]) Tryd.results16 ⟨⟨_, rfl, ld_agg Tryd.isAgg25 Tryd.sizeOf25 hB6 rfl⟩, trivial⟩ ?_
              rw [oddR_leaf hc]
              unfold oddLeaf
              rw [if_neg (by omega), if_neg (by omega), if_neg (by omega), if_pos (by omega)]
              have hT' := (hT.head 0 t.n t.nm ⟨by first | exact hnn.1 | decide, by first | exact hnn.2.1 | decide, by first | exact hnn.2.2 | decide⟩).mono (S' := fun b => b < N ∨ w.heap.size ≤ b ∧ b < (World.heap wv91).size) (by intro b hb; exact .inl hb)
              refine ⟨_, _, ?_, hT', hEw⟩
              simp [tupleOf, Ex.cs, Ex.op, Ex.n, Ex.nm, Ex.args]
            · intro hc86
              try simp only [decide_eq_true_eq, decide_eq_false_iff_not, Bool.not_eq_true', Bool.not_eq_false', Bool.not_true, Bool.not_false, Bool.not_eq_true, Bool.not_eq_false] at hc86
              refine W.region ?_
              refine SQ.op rfl rfl rfl (r_fieldAddr rfl rfl Tryd.underlying25 rfl Tryd.sizeOf22 rfl) ?_
              refine SQ.store rfl rfl rfl rfl rfl Tryd.sizeOf22 rfl hB3 rfl ?_
              intro wv95 hS97 hK96
              have hsz98 := hK96.size
              replace hT := hT.kp hK96 (by intro b hb hs; omega)
              replace hTs := hTs.kp hK96 (by intro b hb hs; omega)
              replace hallK := hallK.kp hK96 (by intro b hb hs; omega)
              replace hB6 := hB6.kp hK96 (by omega)
              replace hB3 : Blk wv95 _ _ _ := hS97
              clear hS97
              replace hEw := hEw.new hK96 (by intro b hb; subst hb; omega)
              refine SQ.nil ?_
              refine C.code ?_
              refine W.seq ?_
              refine W.region ?_
              refine SQ.op rfl rfl rfl (r_loadAgg rfl rfl Tryd.isAgg25 Tryd.sizeOf25 rfl (by first | exact hB6.cells | exact hB3.cells | assumption)) ?_
              refine SQ.storeA rfl rfl rfl rfl rfl Tryd.sizeOf25 rfl hB6 ⟨rfl, rfl⟩ ?_
              intro wv99 hS101 hK100
              have hsz102 := hK100.size
              replace hT := hT.kp hK100 (by intro b hb hs; omega)
              replace hTs := hTs.kp hK100 (by intro b hb hs; omega)
              replace hallK := hallK.kp hK100 (by intro b hb hs; omega)
              replace hB3 := hB3.kp hK100 (by omega)
              replace hB6 : Blk wv99 _ _ _ := hS101
              clear hS101
              replace hEw := hEw.new hK100 (by intro b hb; subst hb; omega)
              refine SQ.nil ?_
              refine C.code ?_
              refine W.ret ?_
              refine C.retL (vs := [_]) Tryd.results16 ⟨⟨_, rfl, ld_agg Tryd.isAgg25 Tryd.sizeOf25 hB6 rfl⟩, trivial⟩ ?_
              rw [oddR_leaf hc]
              unfold oddLeaf
              rw [if_neg (by omega), if_neg (by omega), if_neg (by omega), if_neg (by omega)]
              have hT' := (hT.head 20 t.n t.nm ⟨by first | exact hnn.1 | decide, by first | exact hnn.2.1 | decide, by first | exact hnn.2.2 | decide⟩).mono (S' := fun b => b < N ∨ w.heap.size ≤ b ∧ b < (World.heap wv99).size) (by intro b hb; exact .inl hb)
              refine ⟨_, _, ?_, hT', hEw⟩
              simp [tupleOf, Ex.cs, Ex.op, Ex.n, Ex.nm, Ex.args]
    · refine W.seq ?_
      refine W.region ?_
      have hsz107 := hEw.size
      refine SQ.new (v := (fun nb => .pointer (some ⟨nb, 0, none⟩))) rfl rfl rfl (r_box rfl rfl) ?_
      intro nb3 wv103 hge104 hlt105 hB3 hE106
      replace hT := hT.ext hE106
      replace hTs := hTs.ext hE106
      replace hallK := hallK.ext hE106
      replace hEw := hEw.ext hE106
      replace hB3 : Blk wv103 nb3 _ _ := hB3
      have hsz112 := hEw.size
      refine SQ.new (v := (fun nb => .pointer (some ⟨nb, 0, none⟩))) rfl rfl rfl (r_alloc rfl Tryd.zeroValue25) ?_
      intro nb6 wv108 hge109 hlt110 hB6 hE111
      have hlt_hB3_hB6 := Nat.lt_of_lt_of_le hB3.lt hge109
      replace hT := hT.ext hE111
      replace hTs := hTs.ext hE111
      replace hallK := hallK.ext hE111
      replace hB3 := hB3.ext hE111
      replace hEw := hEw.ext hE111
      replace hB6 : Blk wv108 nb6 _ _ := hB6
      refine SQ.nil ?_
      refine C.code ?_
      refine W.seq ?_
      refine W.seq ?_
      refine W.region ?_
      refine SQ.op rfl rfl rfl (r_fieldAddr rfl rfl Tryd.underlying25 rfl Tryd.sizeOf23 rfl) ?_
      refine SQ.op rfl rfl rfl (r_load rfl rfl Tryd.isAgg23 (by first | exact hB6.cell rfl | exact hB3.cell rfl | assumption)) ?_
      refine SQ.op rfl rfl rfl (r_lenSlice rfl rfl Tryd.underlying23) ?_
      refine SQ.opD true rfl rfl rfl (r_gtr rfl rfl rfl) (decide_eq_true (by omega)) ?_
      refine SQ.op rfl rfl rfl (r_move rfl rfl) ?_
      refine SQ.guarded rfl rfl rfl rfl rfl ?_
      refine SQ.op rfl rfl rfl (r_move rfl rfl) ?_
      refine SQ.guarded rfl rfl rfl rfl rfl ?_
      refine SQ.opD false rfl rfl rfl (r_gtr rfl rfl rfl) (decide_eq_false (by omega)) ?_
      refine SQ.op rfl rfl rfl (r_pick_t rfl rfl rfl) ?_
      refine SQ.nil ?_
      refine C.code ?_
      refine W.cond_f rfl ?_
      refine W.skip ?_
      refine C.code ?_
      refine W.seq ?_
      refine W.seq ?_
      refine W.region ?_
      refine SQ.op rfl rfl rfl (r_move rfl rfl) ?_
      refine SQ.op rfl rfl rfl (r_rem rfl rfl rfl (by decide) (show ((q : Nat) : Int).tmod 5 = ((q % 5 : Nat) : Int) from rfl)) ?_
      refine SQ.nil ?_
      refine C.code ?_
      refine W.block ?_
      refine W.seq ?_
      refine W.region ?_
      refine SQ.op rfl rfl rfl (r_eqlInt rfl rfl rfl) ?_
      refine SQ.op rfl rfl rfl (r_assign rfl rfl) ?_
      refine SQ.nil ?_
      refine C.code ?_
      refine W.cond rfl ?_ ?_
      · intro hc113
        try simp only [decide_eq_true_eq, decide_eq_false_iff_not, Bool.not_eq_true', Bool.not_eq_false', Bool.not_true, Bool.not_false, Bool.not_eq_true, Bool.not_eq_false] at hc113
        refine W.region ?_
        refine SQ.op rfl rfl rfl (r_fieldAddr rfl rfl Tryd.underlying25 rfl Tryd.sizeOf23 rfl) ?_
        refine SQ.op rfl rfl rfl (r_load rfl rfl Tryd.isAgg23 (by first | exact hB6.cell rfl | exact hB3.cell rfl | assumption)) ?_
        have hszc := hEw.size
        rcases Nat.eq_zero_or_pos t.args.length with hl0 | hl0
        · refine SQ.op rfl rfl rfl (r_appendE rfl Tryd.underlying23 Tryd.sizeOf25 rfl (show ev _ _ = some (.slice A 0 c) from by rw [← hl0]; rfl) (Nat.le_refl _)) ?_
          have hO := Ow.nil wv108 w.heap.size 25 4
          have hxs0 : xs = [] := List.length_eq_zero_iff.1 (by omega)
          have hvO : (Value.slice none 0 0).ownBlock = none := rfl
          obtain ⟨vO, hvv, hO, hvb⟩ : ∃ vO, vO = Value.slice none 0 0 ∧ Ow wv108 w.heap.size 25 4 vO xs.length (xs.flatMap Nd.cs) ∧ True := ⟨_, rfl, by rw [hxs0]; exact hO, trivial⟩
          rw [← hvv]
          have hvb : ∀ b, vO.ownBlock = some b → nb3 < b ∧ nb6 < b := by rw [hvv]; intro b h; cases h
          have hlO0 := hO.lt
          refine SQ.op rfl rfl rfl (r_build (pl := [(0, 1), (1, 1), (2, 1), (3, 1)]) rfl rfl Tryd.underlying25 Tryd.zeroValue25 (fun _ => by kernel_rfl) rfl rfl) ?_
          have hsz120 := hEw.size
          refine SQ.new (v := (fun nb => .slice (some ⟨nb, 0, none⟩) 1 1)) rfl rfl rfl (r_buildSlice rfl rfl Tryd.underlying23 Tryd.sizeOf25 Tryd.zeroValue25 rfl rfl rfl rfl rfl) ?_
          intro nb48 wv116 hge117 hlt118 hB48 hE119
          have hlt_hB3_hB48 := Nat.lt_of_lt_of_le hB3.lt hge117
          have hlt_hB6_hB48 := Nat.lt_of_lt_of_le hB6.lt hge117
          replace hT := hT.ext hE119
          replace hTs := hTs.ext hE119
          replace hallK := hallK.ext hE119
          replace hB3 := hB3.ext hE119
          replace hB6 := hB6.ext hE119
          replace hO := hO.ext hE119
          replace hEw := hEw.ext hE119
          replace hB48 : Blk wv116 nb48 _ _ := hB48
          have hszb := hEw.size
          have hlO := hO.lt
          have hb3m := hB3.lt
          have hb6m := hB6.lt
          refine SQ.appendC (z := 4) (bytes := 56) rfl rfl rfl rfl Tryd.underlying23 Tryd.type25 rfl rfl rfl rfl rfl rfl rfl hO hB48.cells rfl (by intro u hu; exact nd_cells [⟨.mk 2 0 ⟨#[]⟩ [], none, 0⟩] u (by simpa [Nd.cs, Ex.cs, Ex.op, Ex.n, Ex.nm, Ex.args] using hu)) (by omega) (by omega) rfl ?_
          intro v2 wv121 hO2 hK122 hat2
          have hv2 : ∀ b, v2.ownBlock = some b → nb3 ≠ b ∧ nb6 ≠ b := by
            intro b hb
            rcases hat2 with h | h
            · rw [h] at hb; have := hvb b hb; omega
            · rw [h] at hb; cases hb; omega
          clear hat2
          replace hT := hT.kp hK122 (by intro b hb hs; have := hlO _ hb; omega)
          replace hTs := hTs.kp hK122 (by intro b hb hs; have := hlO _ hb; omega)
          replace hallK := hallK.kp hK122 (by intro b hb hs; have := hlO _ hb; omega)
          replace hB3 := hB3.kp hK122 (fun e => by have := hvb _ e; omega)
          replace hB6 := hB6.kp hK122 (fun e => by have := hvb _ e; omega)
          replace hB48 := hB48.kp hK122 (fun e => by have := hlO0 _ e; omega)
          replace hEw := hEw.new hK122 (by intro b hb; exact (hlO _ hb).1)
          replace hO := hO2
          clear hO2
          obtain ⟨A2, c2, rfl⟩ := hO.slice
          refine SQ.op rfl rfl rfl (r_fieldAddr rfl rfl Tryd.underlying25 rfl Tryd.sizeOf23 rfl) ?_
          refine SQ.store rfl rfl rfl rfl rfl Tryd.sizeOf23 rfl hB3 rfl ?_
          intro wv123 hS125 hK124
          have hsz126 := hK124.size
          replace hT := hT.kp hK124 (by intro b hb hs; omega)
          replace hTs := hTs.kp hK124 (by intro b hb hs; omega)
          replace hallK := hallK.kp hK124 (by intro b hb hs; omega)
          replace hB6 := hB6.kp hK124 (by omega)
          replace hO := hO.kp hK124 (by rintro _ rfl hq; have := hv2 _ hq; omega)
          replace hB3 : Blk wv123 _ _ _ := hS125
          clear hS125
          replace hEw := hEw.new hK124 (by intro b hb; subst hb; omega)
          refine SQ.nil ?_
          refine C.code ?_
          refine W.seq ?_
          refine W.region ?_
          refine SQ.op rfl rfl rfl (r_loadAgg rfl rfl Tryd.isAgg25 Tryd.sizeOf25 rfl (by first | exact hB6.cells | exact hB3.cells | assumption)) ?_
          refine SQ.storeA rfl rfl rfl rfl rfl Tryd.sizeOf25 rfl hB6 ⟨rfl, rfl⟩ ?_
          intro wv127 hS129 hK128
          have hsz130 := hK128.size
          replace hT := hT.kp hK128 (by intro b hb hs; omega)
          replace hTs := hTs.kp hK128 (by intro b hb hs; omega)
          replace hallK := hallK.kp hK128 (by intro b hb hs; omega)
          replace hB3 := hB3.kp hK128 (by omega)
          replace hO := hO.kp hK128 (by rintro _ rfl hq; have := hv2 _ hq; omega)
          replace hB6 : Blk wv127 _ _ _ := hS129
          clear hS129
          replace hEw := hEw.new hK128 (by intro b hb; subst hb; omega)
          refine SQ.nil ?_
          refine C.code ?_
          refine W.ret ?_
          refine C.retL (vs := [_]) Tryd.results16 ⟨⟨_, rfl, ld_agg Tryd.isAgg25 Tryd.sizeOf25 hB6 rfl⟩, trivial⟩ ?_
          rw [oddR_leaf hc]
          unfold oddLeaf
          rw [if_pos (by omega)]
          have hT' := Tr.row (S := fun b => b < N ∨ w.heap.size ≤ b ∧ b < (World.heap wv127).size) (xs := xs ++ [⟨.mk 2 0 ⟨#[]⟩ [], none, 0⟩]) (op := t.op) (n := t.n) (nm := t.nm) (by rw [List.flatMap_append]; exact hO) rfl (by simp) hnn (by simp; omega) (fun b h1 h => .inr ⟨h1, h⟩) (fun x hx => by
            rcases List.mem_append.1 hx with hx | hx
            · exact (hTs x hx).mono (by intro b hb; exact .inl hb)
            · simp only [List.mem_singleton] at hx; subst hx; exact .nil (by decide))
          rw [List.map_append, ← hxa] at hT'
          refine ⟨_, _, ?_, hT', hEw⟩
          simp [tupleOf, Ex.cs, Ex.op, Ex.n, Ex.nm, Ex.args, hxl]
        · obtain ⟨ba, oa, rfl, hC, hSb⟩ := hallK hl0
          refine SQ.appendC (base := w.heap.size) (z := 4) (bytes := 56) rfl rfl rfl rfl Tryd.underlying23 Tryd.type25 rfl rfl rfl rfl rfl rfl rfl (Ow.nil _ _ _ _) hC (by rw [nd_len, hxl]) (nd_cells xs) (by omega) (by omega) rfl ?_
          intro vO wv114 hO hK115 hat
          rw [Nat.zero_add, List.nil_append, ← hxl] at hO
          have hb3l := hB3.lt
          have hb6l := hB6.lt
          have hvb : ∀ b, vO.ownBlock = some b → nb3 < b ∧ nb6 < b := by
            intro b hb
            rcases hat with h | h
            · rw [h] at hb; cases hb
            · rw [h] at hb; cases hb; exact ⟨hb3l, hb6l⟩
          clear hat
          replace hK115 := hK115.mono (Y := fun _ => False) (fun b _ h => by simp [Value.ownBlock] at h)
          replace hT := hT.ext hK115
          replace hTs := hTs.ext hK115
          replace hallK := hallK.ext hK115
          replace hB3 := hB3.ext hK115
          replace hB6 := hB6.ext hK115
          replace hEw := hEw.ext hK115
          have hlO0 := hO.lt
          refine SQ.op rfl rfl rfl (r_build (pl := [(0, 1), (1, 1), (2, 1), (3, 1)]) rfl rfl Tryd.underlying25 Tryd.zeroValue25 (fun _ => by kernel_rfl) rfl rfl) ?_
          have hsz135 := hEw.size
          refine SQ.new (v := (fun nb => .slice (some ⟨nb, 0, none⟩) 1 1)) rfl rfl rfl (r_buildSlice rfl rfl Tryd.underlying23 Tryd.sizeOf25 Tryd.zeroValue25 rfl rfl rfl rfl rfl) ?_
          intro nb48 wv131 hge132 hlt133 hB48 hE134
          have hlt_hB3_hB48 := Nat.lt_of_lt_of_le hB3.lt hge132
          have hlt_hB6_hB48 := Nat.lt_of_lt_of_le hB6.lt hge132
          replace hT := hT.ext hE134
          replace hTs := hTs.ext hE134
          replace hallK := hallK.ext hE134
          replace hB3 := hB3.ext hE134
          replace hB6 := hB6.ext hE134
          replace hO := hO.ext hE134
          replace hEw := hEw.ext hE134
          replace hB48 : Blk wv131 nb48 _ _ := hB48
          have hszb := hEw.size
          have hlO := hO.lt
          have hb3m := hB3.lt
          have hb6m := hB6.lt
          refine SQ.appendC (z := 4) (bytes := 56) rfl rfl rfl rfl Tryd.underlying23 Tryd.type25 rfl rfl rfl rfl rfl rfl rfl hO hB48.cells rfl (by intro u hu; exact nd_cells [⟨.mk 2 0 ⟨#[]⟩ [], none, 0⟩] u (by simpa [Nd.cs, Ex.cs, Ex.op, Ex.n, Ex.nm, Ex.args] using hu)) (by omega) (by omega) rfl ?_
          intro v2 wv136 hO2 hK137 hat2
          have hv2 : ∀ b, v2.ownBlock = some b → nb3 ≠ b ∧ nb6 ≠ b := by
            intro b hb
            rcases hat2 with h | h
            · rw [h] at hb; have := hvb b hb; omega
            · rw [h] at hb; cases hb; omega
          clear hat2
          replace hT := hT.kp hK137 (by intro b hb hs; have := hlO _ hb; omega)
          replace hTs := hTs.kp hK137 (by intro b hb hs; have := hlO _ hb; omega)
          replace hallK := hallK.kp hK137 (by intro b hb hs; have := hlO _ hb; omega)
          replace hB3 := hB3.kp hK137 (fun e => by have := hvb _ e; omega)
          replace hB6 := hB6.kp hK137 (fun e => by have := hvb _ e; omega)
          replace hB48 := hB48.kp hK137 (fun e => by have := hlO0 _ e; omega)
          replace hEw := hEw.new hK137 (by intro b hb; exact (hlO _ hb).1)
          replace hO := hO2
          clear hO2
          obtain ⟨A2, c2, rfl⟩ := hO.slice
          refine SQ.op rfl rfl rfl (r_fieldAddr rfl rfl Tryd.underlying25 rfl Tryd.sizeOf23 rfl) ?_
          refine SQ.store rfl rfl rfl rfl rfl Tryd.sizeOf23 rfl hB3 rfl ?_
          intro wv138 hS140 hK139
          have hsz141 := hK139.size
          replace hT := hT.kp hK139 (by intro b hb hs; omega)
          replace hTs := hTs.kp hK139 (by intro b hb hs; omega)
          replace hallK := hallK.kp hK139 (by intro b hb hs; omega)
          replace hB6 := hB6.kp hK139 (by omega)
          replace hO := hO.kp hK139 (by rintro _ rfl hq; have := hv2 _ hq; omega)
          replace hB3 : Blk wv138 _ _ _ := hS140
          clear hS140
          replace hEw := hEw.new hK139 (by intro b hb; subst hb; omega)
          refine SQ.nil ?_
          refine C.code ?_
          refine W.seq ?_
          refine W.region ?_
          refine SQ.op rfl rfl rfl (r_loadAgg rfl rfl Tryd.isAgg25 Tryd.sizeOf25 rfl (by first | exact hB6.cells | exact hB3.cells | assumption)) ?_
          refine SQ.storeA rfl rfl rfl rfl rfl Tryd.sizeOf25 rfl hB6 ⟨rfl, rfl⟩ ?_
          intro wv142 hS144 hK143
          have hsz145 := hK143.size
          replace hT := hT.kp hK143 (by intro b hb hs; omega)
          replace hTs := hTs.kp hK143 (by intro b hb hs; omega)
          replace hallK := hallK.kp hK143 (by intro b hb hs; omega)
          replace hB3 := hB3.kp hK143 (by omega)
          replace hO := hO.kp hK143 (by rintro _ rfl hq; have := hv2 _ hq; omega)
          replace hB6 : Blk wv142 _ _ _ := hS144
          clear hS144
          replace hEw := hEw.new hK143 (by intro b hb; subst hb; omega)
          refine SQ.nil ?_
          refine C.code ?_
          refine W.ret ?_
          refine C.retL (vs := [_]) Tryd.results16 ⟨⟨_, rfl, ld_agg Tryd.isAgg25 Tryd.sizeOf25 hB6 rfl⟩, trivial⟩ ?_
          rw [oddR_leaf hc]
          unfold oddLeaf
          rw [if_pos (by omega)]
          have hT' := Tr.row (S := fun b => b < N ∨ w.heap.size ≤ b ∧ b < (World.heap wv142).size) (xs := xs ++ [⟨.mk 2 0 ⟨#[]⟩ [], none, 0⟩]) (op := t.op) (n := t.n) (nm := t.nm) (by rw [List.flatMap_append]; exact hO) rfl (by simp) hnn (by simp; omega) (fun b h1 h => .inr ⟨h1, h⟩) (fun x hx => by
            rcases List.mem_append.1 hx with hx | hx
            · exact (hTs x hx).mono (by intro b hb; exact .inl hb)
            · simp only [List.mem_singleton] at hx; subst hx; exact .nil (by decide))
          rw [List.map_append, ← hxa] at hT'
          refine ⟨_, _, ?_, hT', hEw⟩
          simp [tupleOf, Ex.cs, Ex.op, Ex.n, Ex.nm, Ex.args, hxl]
      · intro hc113
        try simp only [decide_eq_true_eq, decide_eq_false_iff_not, Bool.not_eq_true', Bool.not_eq_false', Bool.not_true, Bool.not_false, Bool.not_eq_true, Bool.not_eq_false] at hc113
        refine W.seq ?_
        refine W.region ?_
        refine SQ.op rfl rfl rfl (r_eqlInt rfl rfl rfl) ?_
        refine SQ.op rfl rfl rfl (r_assign rfl rfl) ?_
        refine SQ.nil ?_
        refine C.code ?_
        refine W.cond rfl ?_ ?_
        · intro hc146
          try simp only [decide_eq_true_eq, decide_eq_false_iff_not, Bool.not_eq_true', Bool.not_eq_false', Bool.not_true, Bool.not_false, Bool.not_eq_true, Bool.not_eq_false] at hc146
          refine W.region ?_
          refine SQ.op rfl rfl rfl (r_fieldAddr rfl rfl Tryd.underlying25 rfl Tryd.sizeOf2 rfl) ?_
          refine SQ.store rfl rfl rfl rfl rfl Tryd.sizeOf2 rfl hB3 rfl ?_
          intro wv147 hS149 hK148
          have hsz150 := hK148.size
          replace hT := hT.kp hK148 (by intro b hb hs; omega)
          replace hTs := hTs.kp hK148 (by intro b hb hs; omega)
          replace hallK := hallK.kp hK148 (by intro b hb hs; omega)
          replace hB6 := hB6.kp hK148 (by omega)
          replace hB3 : Blk wv147 _ _ _ := hS149
          clear hS149
          replace hEw := hEw.new hK148 (by intro b hb; subst hb; omega)
          refine SQ.nil ?_
          refine C.code ?_
          refine W.seq ?_
          refine W.region ?_
          refine SQ.op rfl rfl rfl (r_loadAgg rfl rfl Tryd.isAgg25 Tryd.sizeOf25 rfl (by first | exact hB6.cells | exact hB3.cells | assumption)) ?_
          refine SQ.storeA rfl rfl rfl rfl rfl Tryd.sizeOf25 rfl hB6 ⟨rfl, rfl⟩ ?_
          intro wv151 hS153 hK152
          have hsz154 := hK152.size
          replace hT := hT.kp hK152 (by intro b hb hs; omega)
          replace hTs := hTs.kp hK152 (by intro b hb hs; omega)
          replace hallK := hallK.kp hK152 (by intro b hb hs; omega)
          replace hB3 := hB3.kp hK152 (by omega)
          replace hB6 : Blk wv151 _ _ _ := hS153
          clear hS153
          replace hEw := hEw.new hK152 (by intro b hb; subst hb; omega)
          refine SQ.nil ?_
          refine C.code ?_
          refine W.ret ?_
          refine C.retL (vs := [_]) Tryd.results16 ⟨⟨_, rfl, ld_agg Tryd.isAgg25 Tryd.sizeOf25 hB6 rfl⟩, trivial⟩ ?_
          rw [oddR_leaf hc]
          unfold oddLeaf
          rw [if_neg (by omega), if_pos (by omega)]
          have hT' := (hT.head t.op (-1) t.nm ⟨by first | exact hnn.1 | decide, by first | exact hnn.2.1 | decide, by first | exact hnn.2.2 | decide⟩).mono (S' := fun b => b < N ∨ w.heap.size ≤ b ∧ b < (World.heap wv151).size) (by intro b hb; exact .inl hb)
          refine ⟨_, _, ?_, hT', hEw⟩
          simp [tupleOf, Ex.cs, Ex.op, Ex.n, Ex.nm, Ex.args]
        · intro hc146
          try simp only [decide_eq_true_eq, decide_eq_false_iff_not, Bool.not_eq_true', Bool.not_eq_false', Bool.not_true, Bool.not_false, Bool.not_eq_true, Bool.not_eq_false] at hc146
          refine W.seq ?_
          refine W.region ?_
          refine SQ.op rfl rfl rfl (r_eqlInt rfl rfl rfl) ?_
          refine SQ.op rfl rfl rfl (r_assign rfl rfl) ?_
          refine SQ.nil ?_
          refine C.code ?_
          refine W.cond rfl ?_ ?_
          · intro hc155
            try simp only [decide_eq_true_eq, decide_eq_false_iff_not, Bool.not_eq_true', Bool.not_eq_false', Bool.not_true, Bool.not_false, Bool.not_eq_true, Bool.not_eq_false] at hc155
            refine W.region ?_
            refine SQ.op rfl rfl rfl (r_fieldAddr rfl rfl Tryd.underlying25 rfl Tryd.sizeOf9 rfl) ?_
            refine SQ.store rfl rfl rfl rfl rfl Tryd.sizeOf9 rfl hB3 rfl ?_
            intro wv156 hS158 hK157
            have hsz159 := hK157.size
            replace hT := hT.kp hK157 (by intro b hb hs; omega)
            replace hTs := hTs.kp hK157 (by intro b hb hs; omega)
            replace hallK := hallK.kp hK157 (by intro b hb hs; omega)
            replace hB6 := hB6.kp hK157 (by omega)
            replace hB3 : Blk wv156 _ _ _ := hS158
            clear hS158
            replace hEw := hEw.new hK157 (by intro b hb; subst hb; omega)
            refine SQ.nil ?_
            refine C.code ?_
            refine W.seq ?_
            refine W.region ?_
            refine SQ.op rfl rfl rfl (r_loadAgg rfl rfl Tryd.isAgg25 Tryd.sizeOf25 rfl (by first | exact hB6.cells | exact hB3.cells | assumption)) ?_
            refine SQ.storeA rfl rfl rfl rfl rfl Tryd.sizeOf25 rfl hB6 ⟨rfl, rfl⟩ ?_
            intro wv160 hS162 hK161
            have hsz163 := hK161.size
            replace hT := hT.kp hK161 (by intro b hb hs; omega)
            replace hTs := hTs.kp hK161 (by intro b hb hs; omega)
            replace hallK := hallK.kp hK161 (by intro b hb hs; omega)
            replace hB3 := hB3.kp hK161 (by omega)
            replace hB6 : Blk wv160 _ _ _ := hS162
            clear hS162
            replace hEw := hEw.new hK161 (by intro b hb; subst hb; omega)
            refine SQ.nil ?_
            refine C.code ?_
            refine W.ret ?_
            refine C.retL (vs := [_]) Tryd.results16 ⟨⟨_, rfl, ld_agg Tryd.isAgg25 Tryd.sizeOf25 hB6 rfl⟩, trivial⟩ ?_
            rw [oddR_leaf hc]
            unfold oddLeaf
            rw [if_neg (by omega), if_neg (by omega), if_pos (by omega)]
            have hT' := (hT.head t.op t.n ⟨#[116, 104, 101, 110]⟩ ⟨by first | exact hnn.1 | decide, by first | exact hnn.2.1 | decide, by first | exact hnn.2.2 | decide⟩).mono (S' := fun b => b < N ∨ w.heap.size ≤ b ∧ b < (World.heap wv160).size) (by intro b hb; exact .inl hb)
            refine ⟨_, _, ?_, hT', hEw⟩
            simp [tupleOf, Ex.cs, Ex.op, Ex.n, Ex.nm, Ex.args]
          · intro hc155
            try simp only [decide_eq_true_eq, decide_eq_false_iff_not, Bool.not_eq_true', Bool.not_eq_false', Bool.not_true, Bool.not_false, Bool.not_eq_true, Bool.not_eq_false] at hc155
            refine W.seq ?_
            refine W.region ?_
            refine SQ.op rfl rfl rfl (r_eqlInt rfl rfl rfl) ?_
            refine SQ.op rfl rfl rfl (r_assign rfl rfl) ?_
            refine SQ.nil ?_
            refine C.code ?_
            refine W.cond rfl ?_ ?_
            · intro hc164
              try simp only [decide_eq_true_eq, decide_eq_false_iff_not, Bool.not_eq_true', Bool.not_eq_false', Bool.not_true, Bool.not_false, Bool.not_eq_true, Bool.not_eq_false] at hc164
              refine W.region ?_
              refine SQ.op rfl rfl rfl (r_fieldAddr rfl rfl Tryd.underlying25 rfl Tryd.sizeOf22 rfl) ?_
              refine SQ.store rfl rfl rfl rfl rfl Tryd.sizeOf22 rfl hB3 rfl ?_
              intro wv165 hS167 hK166
              have hsz168 := hK166.size
              replace hT := hT.kp hK166 (by intro b hb hs; omega)
              replace hTs := hTs.kp hK166 (by intro b hb hs; omega)
              replace hallK := hallK.kp hK166 (by intro b hb hs; omega)
              replace hB6 := hB6.kp hK166 (by omega)
              replace hB3 : Blk wv165 _ _ _ := hS167
              clear hS167
              replace hEw := hEw.new hK166 (by intro b hb; subst hb; omega)
              refine SQ.nil ?_
              refine C.code ?_
              refine W.seq ?_
              refine W.region ?_
              refine SQ.op rfl rfl rfl (r_loadAgg rfl rfl Tryd.isAgg25 Tryd.sizeOf25 rfl (by first | exact hB6.cells | exact hB3.cells | assumption)) ?_
              refine SQ.storeA rfl rfl rfl rfl rfl Tryd.sizeOf25 rfl hB6 ⟨rfl, rfl⟩ ?_
              intro wv169 hS171 hK170
              have hsz172 := hK170.size
              replace hT := hT.kp hK170 (by intro b hb hs; omega)
              replace hTs := hTs.kp hK170 (by intro b hb hs; omega)
              replace hallK := hallK.kp hK170 (by intro b hb hs; omega)
              replace hB3 := hB3.kp hK170 (by omega)
              replace hB6 : Blk wv169 _ _ _ := hS171
              clear hS171
              replace hEw := hEw.new hK170 (by intro b hb; subst hb; omega)
              refine SQ.nil ?_
              refine C.code ?_
              refine W.ret ?_
              refine C.retL (vs := [_]) Tryd.results16 ⟨⟨_, rfl, ld_agg Tryd.isAgg25 Tryd.sizeOf25 hB6 rfl⟩, trivial⟩ ?_
              rw [oddR_leaf hc]
              unfold oddLeaf
              rw [if_neg (by omega), if_neg (by omega), if_neg (by omega), if_pos (by omega)]
              have hT' := (hT.head 0 t.n t.nm ⟨by first | exact hnn.1 | decide, by first | exact hnn.2.1 | decide, by first | exact hnn.2.2 | decide⟩).mono (S' := fun b => b < N ∨ w.heap.size ≤ b ∧ b < (World.heap wv169).size) (by intro b hb; exact .inl hb)
              refine ⟨_, _, ?_, hT', hEw⟩
              simp [tupleOf, Ex.cs, Ex.op, Ex.n, Ex.nm, Ex.args]
            · intro hc164
              try simp only [decide_eq_true_eq, decide_eq_false_iff_not, Bool.not_eq_true', Bool.not_eq_false', Bool.not_true, Bool.not_false, Bool.not_eq_true, Bool.not_eq_false] at hc164
              refine W.region ?_
              refine SQ.op rfl rfl rfl (r_fieldAddr rfl rfl Tryd.underlying25 rfl Tryd.sizeOf22 rfl) ?_
              refine SQ.store rfl rfl rfl rfl rfl Tryd.sizeOf22 rfl hB3 rfl ?_
              intro wv173 hS175 hK174
              have hsz176 := hK174.size
              replace hT := hT.kp hK174 (by intro b hb hs; omega)
              replace hTs := hTs.kp hK174 (by intro b hb hs; omega)
              replace hallK := hallK.kp hK174 (by intro b hb hs; omega)
              replace hB6 := hB6.kp hK174 (by omega)
              replace hB3 : Blk wv173 _ _ _ := hS175
              clear hS175
              replace hEw := hEw.new hK174 (by intro b hb; subst hb; omega)
              refine SQ.nil ?_
              refine C.code ?_
              refine W.seq ?_
              refine W.region ?_
              refine SQ.op rfl rfl rfl (r_loadAgg rfl rfl Tryd.isAgg25 Tryd.sizeOf25 rfl (by first | exact hB6.cells | exact hB3.cells | assumption)) ?_
              refine SQ.storeA rfl rfl rfl rfl rfl Tryd.sizeOf25 rfl hB6 ⟨rfl, rfl⟩ ?_
              intro wv177 hS179 hK178
              have hsz180 := hK178.size
              replace hT := hT.kp hK178 (by intro b hb hs; omega)
              replace hTs := hTs.kp hK178 (by intro b hb hs; omega)
              replace hallK := hallK.kp hK178 (by intro b hb hs; omega)
              replace hB3 := hB3.kp hK178 (by omega)
              replace hB6 : Blk wv177 _ _ _ := hS179
              clear hS179
              replace hEw := hEw.new hK178 (by intro b hb; subst hb; omega)
              refine SQ.nil ?_
              refine C.code ?_
              refine W.ret ?_
              refine C.retL (vs := [_]) Tryd.results16 ⟨⟨_, rfl, ld_agg Tryd.isAgg25 Tryd.sizeOf25 hB6 rfl⟩, trivial⟩ ?_
              rw [oddR_leaf hc]
              unfold oddLeaf
              rw [if_neg (by omega), if_neg (by omega), if_neg (by omega), if_neg (by omega)]
              have hT' := (hT.head 20 t.n t.nm ⟨by first | exact hnn.1 | decide, by first | exact hnn.2.1 | decide, by first | exact hnn.2.2 | decide⟩).mono (S' := fun b => b < N ∨ w.heap.size ≤ b ∧ b < (World.heap wv177).size) (by intro b hb; exact .inl hb)
              refine ⟨_, _, ?_, hT', hEw⟩
              simp [tupleOf, Ex.cs, Ex.op, Ex.n, Ex.nm, Ex.args]

theorem odd_all (q : Nat) (hq : q ≤ 255) : ∀ k, OddAt q k
  | 0 => fun t A c N way w hT hN hsz hway hw => odd_step q 0 hq (fun k' h => by omega) t A c N way w hT hN hsz hway hw
  | k + 1 => fun t A c N way w hT hN hsz hway hw => odd_step q (k + 1) hq (fun k' h => (Nat.succ.inj h : k = k') ▸ odd_all q hq k) t A c N way w hT hN hsz hway hw
theorem Check_no (t : Ex) (A : Option Addr) (c N : Nat) (w : World) (hT : Tr w (fun b => b < N) t A c) (hN : N ≤ w.heap.size) (h : checkB t = false) : Calls Tryd.prog 15 #[.agg (t.cs A c).toArray] w fun e w' => e = .returned (.bool false) ∧ Ext w w' := by
  have := Check_spec t A c N w hT hN
  rw [h] at this
  exact this
theorem Text_no (t : Ex) (A : Option Addr) (c N : Nat) (w : World) (hT : Tr w (fun b => b < N) t A c) (hN : N ≤ w.heap.size) (hG : Gl w) (h : checkB t = false) : Calls Tryd.prog 17 #[.agg (t.cs A c).toArray] w fun e w' => e = .returned (.tuple #[.string ⟨#[]⟩, .int .i64 1]) ∧ Ext w w' := by
  have := Text_spec t A c N w hT hN hG
  have e : textR t = (⟨#[]⟩, 1) := by unfold textR; rw [if_neg (by simp [h])]
  rw [e] at this
  exact this

/-- belfry.belfrylaw05.ExprsOdd -/
theorem oddLaw_walk (t : Ex) (A : Option Addr) (c N q way : Nat) (hq : q ≤ 255) (hw : way ≤ 255) (w : World) (hT : Tr w (fun b => b < N) t A c) (hN : N ≤ w.heap.size) (hsz : t.sz ≤ 1048576) (hG : Gl w) :
    Calls Tryd.prog 5 #[.agg (t.cs A c).toArray, .int .u8 (q : Int), .int .u8 (way : Int)] w fun e w' => e = .returned (.bool true) ∧ Ext w w' := by
  refine calls_of Tryd.func5 rfl Tryd.ntmps5 rfl ?_
  have hEw := Kp.refl (fun _ => False) w
  refine W.seq ?_
  refine W.region ?_
  have hsz5 := hEw.size
  refine SQ.new (v := (fun nb => .pointer (some ⟨nb, 0, none⟩))) rfl rfl rfl (r_box rfl rfl) ?_
  intro nb3 wv1 hge2 hlt3 hB3 hE4
  have hge_hG_hB3 := Nat.le_trans hG.size hge2
  replace hT := hT.ext hE4
  replace hG := hG.ext hE4
  replace hEw := hEw.ext hE4
  replace hB3 : Blk wv1 nb3 _ _ := hB3
  refine SQ.op rfl rfl rfl (r_assign rfl rfl) ?_
  refine SQ.nil ?_
  refine C.code ?_
  refine W.seq ?_
  refine W.seq ?_
  refine W.region ?_
  have hsz6 := hEw.size
  refine SQ.call rfl rfl rfl (rc_func rfl rfl Tryd.call7) (alive_spec _ hG) ?_
  rintro _ wv7 ⟨rfl, hE8⟩
  refine ⟨_, rfl, ?_⟩
  replace hT := hT.ext hE8
  replace hG := hG.ext hE8
  replace hB3 := hB3.ext hE8
  replace hEw := hEw.ext hE8
  refine SQ.op rfl rfl rfl (r_not rfl rfl) ?_
  refine SQ.op rfl rfl rfl (r_move rfl rfl) ?_
  refine SQ.guarded rfl rfl rfl rfl rfl ?_
  refine SQ.op rfl rfl rfl (r_loadAgg rfl rfl Tryd.isAgg25 Tryd.sizeOf25 rfl (by first | exact hB3.cells | assumption)) ?_
  refine SQ.guarded rfl rfl rfl rfl rfl ?_
  have hsz9 := hEw.size
  refine SQ.call rfl rfl rfl (rc_func rfl rfl Tryd.call8) (Size_spec t A c N _ hT (by have := hEw.size; omega) hsz) ?_
  rintro _ wv10 ⟨rfl, hE11⟩
  refine ⟨_, rfl, ?_⟩
  replace hT := hT.ext hE11
  replace hG := hG.ext hE11
  replace hB3 := hB3.ext hE11
  replace hEw := hEw.ext hE11
  refine SQ.guarded rfl rfl rfl rfl rfl ?_
  refine SQ.op rfl rfl rfl (r_gtr rfl rfl rfl) ?_
  refine SQ.op rfl rfl rfl (r_pick_f rfl rfl rfl) ?_
  refine SQ.opB rfl rfl rfl (r_move rfl rfl) ?_ ?_
  · intro hb1_7
    refine SQ.skip rfl rfl rfl rfl rfl rfl rfl ?_
    refine SQ.skip rfl rfl rfl rfl rfl rfl rfl ?_
    refine SQ.skip rfl rfl rfl rfl rfl rfl rfl ?_
    refine SQ.op rfl rfl rfl (r_pick_t rfl rfl rfl) ?_
    refine SQ.nil ?_
    refine C.code ?_
    refine W.cond_t rfl ?_
    refine W.seq ?_
    refine W.region ?_
    have hsz12 := hEw.size
    refine SQ.call rfl rfl rfl (rc_func rfl rfl Tryd.call7) (alive_spec _ hG) ?_
    rintro _ wv13 ⟨rfl, hE14⟩
    refine ⟨_, rfl, ?_⟩
    replace hT := hT.ext hE14
    replace hG := hG.ext hE14
    replace hB3 := hB3.ext hE14
    replace hEw := hEw.ext hE14
    refine SQ.op rfl rfl rfl (r_assign rfl rfl) ?_
    refine SQ.nil ?_
    refine C.code ?_
    refine W.ret ?_
    refine C.ret1 Tryd.results5 rfl ?_
    exact ⟨rfl, hEw⟩
  · intro hb1_7
    refine SQ.guarded rfl rfl rfl rfl rfl ?_
    refine SQ.op rfl rfl rfl (r_loadAgg rfl rfl Tryd.isAgg25 Tryd.sizeOf25 rfl (by first | exact hB3.cells | assumption)) ?_
    refine SQ.guarded rfl rfl rfl rfl rfl ?_
    have hsz15 := hEw.size
    refine SQ.call rfl rfl rfl (rc_func rfl rfl Tryd.call15) (Check_spec t A c N _ hT (by have := hEw.size; omega)) ?_
    rintro _ wv16 ⟨rfl, hE17⟩
    refine ⟨_, rfl, ?_⟩
    replace hT := hT.ext hE17
    replace hG := hG.ext hE17
    replace hB3 := hB3.ext hE17
    replace hEw := hEw.ext hE17
    refine SQ.guarded rfl rfl rfl rfl rfl ?_
    refine SQ.op rfl rfl rfl (r_not rfl rfl) ?_
    refine SQ.op rfl rfl rfl (r_pick_f rfl rfl rfl) ?_
    refine SQ.nil ?_
    refine C.code ?_
    refine W.cond rfl ?_ ?_
    · intro hc18
      refine W.seq ?_
      refine W.region ?_
      have hsz19 := hEw.size
      refine SQ.call rfl rfl rfl (rc_func rfl rfl Tryd.call7) (alive_spec _ hG) ?_
      rintro _ wv20 ⟨rfl, hE21⟩
      refine ⟨_, rfl, ?_⟩
      replace hT := hT.ext hE21
      replace hG := hG.ext hE21
      replace hB3 := hB3.ext hE21
      replace hEw := hEw.ext hE21
      refine SQ.op rfl rfl rfl (r_assign rfl rfl) ?_
      refine SQ.nil ?_
      refine C.code ?_
      refine W.ret ?_
      refine C.ret1 Tryd.results5 rfl ?_
      exact ⟨rfl, hEw⟩
    · intro hc18
      refine W.skip ?_
      refine C.code ?_
      refine W.seq ?_
      have hcond : (!checkB t) = false := by assumption
      refine W.region ?_
      refine SQ.op rfl rfl rfl (r_loadAgg rfl rfl Tryd.isAgg25 Tryd.sizeOf25 rfl (by first | exact hB3.cells | assumption)) ?_
      refine SQ.op rfl rfl rfl (r_move rfl rfl) ?_
      refine SQ.op rfl rfl rfl (r_move rfl rfl) ?_
      refine SQ.op rfl rfl rfl (r_convInt rfl rfl Tryd.underlying5 Tryd.underlying3 (w64 (by omega))) ?_
      have hck : checkB t = true := by simpa using hcond
      have hbad : checkB (oddR q 8 t way) = false := oddR_bad q 8 32 t way 200 hck
      refine SQ.call rfl rfl rfl (rc_func rfl rfl Tryd.call16) (odd_all q hq 8 t A c N way _ hT (by have := hEw.size; omega) (by omega) (by omega) hw) ?_
      rintro _ wv22 ⟨A9, c9, rfl, hT9, hE23⟩
      refine ⟨_, rfl, ?_⟩
      have hszo := hEw.size
      replace hT9 := hT9.mono (S' := fun b => b < (World.heap wv22).size) (by intro b hb; have := hE23.size; omega)
      obtain ⟨N9, hN9, hT9⟩ : ∃ N9, Sz N9 wv22 ∧ Tr wv22 (fun b => b < N9) (oddR q 8 t way) A9 c9 := ⟨_, Sz.here _, hT9⟩
      replace hT := hT.ext hE23
      replace hG := hG.ext hE23
      replace hB3 := hB3.ext hE23
      replace hEw := hEw.ext hE23
      have hsz28 := hEw.size
      refine SQ.new (v := (fun nb => .pointer (some ⟨nb, 0, none⟩))) rfl rfl rfl (r_alloc rfl Tryd.zeroValue25) ?_
      intro nb7 wv24 hge25 hlt26 hB7 hE27
      have hge_hG_hB7 := Nat.le_trans hG.size hge25
      have hlt_hB3_hB7 := Nat.lt_of_lt_of_le hB3.lt hge25
      have hge_hN9_hB7 := Nat.le_trans hN9.le hge25
      replace hT := hT.ext hE27
      replace hG := hG.ext hE27
      replace hB3 := hB3.ext hE27
      replace hT9 := hT9.ext hE27
      replace hN9 := hN9.ext hE27
      replace hEw := hEw.ext hE27
      replace hB7 : Blk wv24 nb7 _ _ := hB7
      refine SQ.storeA rfl rfl rfl rfl rfl Tryd.sizeOf25 rfl hB7 ⟨rfl, rfl⟩ ?_
      intro wv29 hS31 hK30
      have hsz32 := hK30.size
      replace hT := hT.kp hK30 (by intro b hb hs; omega)
      replace hG := hG.kp hK30 (by intro b hb hs; omega)
      replace hB3 := hB3.kp hK30 (by omega)
      replace hT9 := hT9.kp hK30 (by intro b hb hs; omega)
      replace hN9 := hN9.kp hK30 trivial
      replace hB7 : Blk wv29 _ _ _ := hS31
      clear hS31
      replace hEw := hEw.new hK30 (by intro b hb; subst hb; omega)
      refine SQ.nil ?_
      refine C.code ?_
      refine W.seq ?_
      refine W.region ?_
      refine SQ.op rfl rfl rfl (r_loadAgg rfl rfl Tryd.isAgg25 Tryd.sizeOf25 rfl (by first | exact hB7.cells | exact hB3.cells | assumption)) ?_
      have hsz33 := hEw.size
      refine SQ.call rfl rfl rfl (rc_func rfl rfl Tryd.call17) (Text_no _ _ _ N9 _ hT9 hN9.le hG hbad) ?_
      rintro _ wv34 ⟨rfl, hE35⟩
      refine ⟨_, rfl, ?_⟩
      replace hT := hT.ext hE35
      replace hG := hG.ext hE35
      replace hB3 := hB3.ext hE35
      replace hT9 := hT9.ext hE35
      replace hN9 := hN9.ext hE35
      replace hB7 := hB7.ext hE35
      replace hEw := hEw.ext hE35
      refine SQ.op rfl rfl rfl (r_move rfl rfl) ?_
      refine SQ.op rfl rfl rfl (r_extract rfl rfl rfl) ?_
      refine SQ.op rfl rfl rfl (r_extract rfl rfl rfl) ?_
      refine SQ.op rfl rfl rfl (r_assign rfl rfl) ?_
      refine SQ.op rfl rfl rfl (r_assign rfl rfl) ?_
      refine SQ.nil ?_
      refine C.code ?_
      refine W.seq ?_
      refine W.region ?_
      refine SQ.op rfl rfl rfl (r_loadAgg rfl rfl Tryd.isAgg25 Tryd.sizeOf25 rfl (by first | exact hB7.cells | exact hB3.cells | assumption)) ?_
      have hsz36 := hEw.size
      refine SQ.call rfl rfl rfl (rc_func rfl rfl Tryd.call15) (Check_no _ _ _ N9 _ hT9 hN9.le hbad) ?_
      rintro _ wv37 ⟨rfl, hE38⟩
      refine ⟨_, rfl, ?_⟩
      replace hT := hT.ext hE38
      replace hG := hG.ext hE38
      replace hB3 := hB3.ext hE38
      replace hT9 := hT9.ext hE38
      replace hN9 := hN9.ext hE38
      replace hB7 := hB7.ext hE38
      replace hEw := hEw.ext hE38
      refine SQ.op rfl rfl rfl (r_not rfl rfl) ?_
      refine SQ.op rfl rfl rfl (r_move rfl rfl) ?_
      refine SQ.guarded rfl rfl rfl rfl rfl ?_
      refine SQ.op rfl rfl rfl (r_move rfl rfl) ?_
      refine SQ.guarded rfl rfl rfl rfl rfl ?_
      refine SQ.opD true rfl rfl rfl (r_eqlInt rfl rfl rfl) rfl ?_
      refine SQ.op rfl rfl rfl (r_pick_t rfl rfl rfl) ?_
      refine SQ.op rfl rfl rfl (r_move rfl rfl) ?_
      refine SQ.guarded rfl rfl rfl rfl rfl ?_
      refine SQ.op rfl rfl rfl (r_move rfl rfl) ?_
      refine SQ.guarded rfl rfl rfl rfl rfl ?_
      refine SQ.opD true rfl rfl rfl (r_eqlStr rfl rfl rfl) (by decide) ?_
      refine SQ.op rfl rfl rfl (r_pick_t rfl rfl rfl) ?_
      refine SQ.op rfl rfl rfl (r_assign rfl rfl) ?_
      refine SQ.nil ?_
      refine C.code ?_
      refine W.ret ?_
      refine C.ret1 Tryd.results5 rfl ?_
      exact ⟨rfl, hEw⟩


end Go.Proofs.YtclokcmgigdjlaaDoor
