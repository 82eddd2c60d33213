/- Printed by this session's own program out of the translation, and by hand. -/
import Derived.Test.YtclokcmgigdjlaaDoorS
import Derived.Test.YtclokcmgigdjlaaDoorRows
import Derived.Test.YtclokcmgigdjlaaDoorFlP
set_option linter.unusedVariables false
set_option linter.unusedSimpArgs false
set_option maxRecDepth 4000
namespace Go.Proofs.YtclokcmgigdjlaaDoor
open Go.FL Go.RowKit Go.Proofs Go.ChangeShapes Go.WideShapes Go.ChangeAt

theorem cellsOf2 : Tryd.prog.cellsOf 2 = 1 := by kernel_rfl
theorem cellsOf9 : Tryd.prog.cellsOf 9 = 1 := by kernel_rfl
theorem cellsOf22 : Tryd.prog.cellsOf 22 = 1 := by kernel_rfl
theorem cellsOf23 : Tryd.prog.cellsOf 23 = 1 := by kernel_rfl
theorem cellsOf25 : Tryd.prog.cellsOf 25 = 4 := by kernel_rfl
theorem list_of {α : Type} {P : Nat → α → Prop} : ∀ n, (∀ i, i < n → ∃ x, P i x) → ∃ xs : List α, xs.length = n ∧ ∀ i x, xs[i]? = some x → P i x
  | 0, _ => ⟨[], rfl, fun i x h => by simp at h⟩
  | n + 1, h => by
    obtain ⟨xs, hl, hx⟩ := list_of n (fun i hi => h i (by omega))
    obtain ⟨y, hy⟩ := h n (by omega)
    refine ⟨xs ++ [y], by simp [hl], fun i x hix => ?_⟩
    rcases Nat.lt_or_ge i xs.length with hi | hi
    · rw [List.getElem?_append_left hi] at hix; exact hx i x hix
    · rw [List.getElem?_append_right hi] at hix
      have : i - xs.length = 0 := by
        rcases Nat.eq_zero_or_pos (i - xs.length) with e | e
        · exact e
        · rw [List.getElem?_eq_none (by simp; omega)] at hix; cases hix
      rw [this] at hix
      simp at hix; subst hix
      rw [show i = n by omega]; exact hy
theorem flat_inv {α : Type} (g : α → List Value) (z : Nat) (hz : ∀ x, (g x).length = z) : ∀ (l : List α) (k : Nat) (v : Value), (l.flatMap g)[k]? = some v → ∃ i j x, k = i * z + j ∧ j < z ∧ l[i]? = some x ∧ (g x)[j]? = some v
  | [], k, v, h => by simp at h
  | y :: r, k, v, h => by
    rw [List.flatMap_cons] at h
    rcases Nat.lt_or_ge k (g y).length with hk | hk
    · rw [List.getElem?_append_left hk] at h
      exact ⟨0, k, y, by simp, by rw [← hz y]; exact hk, rfl, h⟩
    · rw [List.getElem?_append_right hk] at h
      obtain ⟨i, j, x, h1, h2, h3, h4⟩ := flat_inv g z hz r _ v h
      exact ⟨i + 1, j, x, by rw [hz] at h1 hk; rw [Nat.succ_mul]; omega, h2, by simpa using h3, h4⟩
theorem bulk_mem {H : Type} : ∀ (l : List (DataW H)) (i : Nat) (d : DataW H), l[i]? = some d → Rows.uptoBulk d ≤ Rows.uptoBulkAll l
  | [], _, _, h => by simp at h
  | x :: r, 0, d, h => by simp at h; subst h; simp only [Rows.uptoBulkAll]; omega
  | x :: r, i + 1, d, h => by have := bulk_mem r i d (by simpa using h); simp only [Rows.uptoBulkAll]; omega
theorem bulk_nds {H : Type} : ∀ (xs : List Nd) (es : List (DataW H)), xs.length = es.length → (∀ (i : Nat) (x : Nd) (e : DataW H), xs[i]? = some x → es[i]? = some e → x.t.sz + 1 ≤ Rows.uptoBulk e) → szs (xs.map Nd.t) + xs.length ≤ Rows.uptoBulkAll es
  | [], [], _, _ => by simp [szs]
  | x :: xs, e :: es, hl, h => by
    have h0 := h 0 x e rfl rfl
    have ih := bulk_nds xs es (by simpa using hl) (fun i x e hx he => h (i + 1) x e (by simpa using hx) (by simpa using he))
    simp only [List.map_cons, szs, List.length_cons, Rows.uptoBulkAll]; omega
  | [], _ :: _, hl, _ => by simp at hl
  | _ :: _, [], hl, _ => by simp at hl
theorem cells_get {W : World} {base : Nat} {a : Addr} {n : Nat} {cs : List Value} (h : W.cells? base a n = some cs) : cs.length = n ∧ ∀ j, j < n → W.cell? (a.add j) = cs[j]? := by
  unfold World.cells? at h
  split at h
  · exact ⟨by simpa using mapM_some_length h, fun j hj => mapM_some_get h j j (by simp [hj])⟩
  · cases h
theorem string_len (s : ByteArray) : s.data.toList.length = s.size := (size_list s).symm
theorem tr_of_trod {H : Type} {enc : TypeId × Value → H} {W : World} {base : Nat} {sp : Nat → Bool} {held : Bool} : ∀ (N fuel : Nat), fuel ≤ N → ∀ (cs : List Value) (d : DataW H) (ps : List MemPlace), DataW.trod enc Tryd.prog W base sp held fuel 25 cs = some (d, ps) → Rows.uptoBulk d ≤ 1048576 →
    ∃ t A c, cs = Ex.cs t A c ∧ Tr W (fun b => b < W.heap.size) t A c ∧ t.sz + 1 ≤ Rows.uptoBulk d
  | 0, fuel, hf, cs, d, ps, h, _ => by
    obtain rfl : fuel = 0 := by omega
    simp [DataW.trod] at h
  | N + 1, fuel, hf, cs, d, ps, h, hk => by
    obtain ⟨xs, n, rfl, hx, hl, hxl, hfs⟩ := DataW.trod_struct Tryd.underlying25 h
    have f0 : DataW.trod enc Tryd.prog W base sp held n 22 ((cs.drop 0).take (Tryd.prog.cellsOf 22)) = xs[0]? := hfs 0 _ rfl
    have f1 : DataW.trod enc Tryd.prog W base sp held n 2 ((cs.drop 1).take (Tryd.prog.cellsOf 2)) = xs[1]? := hfs 1 _ rfl
    have f2 : DataW.trod enc Tryd.prog W base sp held n 9 ((cs.drop 2).take (Tryd.prog.cellsOf 9)) = xs[2]? := hfs 2 _ rfl
    have f3 : DataW.trod enc Tryd.prog W base sp held n 23 ((cs.drop 3).take (Tryd.prog.cellsOf 23)) = xs[3]? := hfs 3 _ rfl
    rw [cellsOf25] at hl
    simp only [cellsOf2, cellsOf9, cellsOf22, cellsOf23] at f0 f1 f2 f3
    match cs, hl with
    | [c0, c1, c2, c3], _ =>
    match xs, hxl with
    | [x0, x1, x2, x3], _ =>
    simp only [List.drop_zero, List.drop_succ_cons, List.take_succ_cons, List.take_zero, List.getElem?_cons_zero, List.getElem?_cons_succ] at f0 f1 f2 f3
    obtain ⟨op, e0, rfl, w0⟩ := DataW.trod_int Tryd.underlying22 f0
    obtain ⟨nn, e1, rfl, w1⟩ := DataW.trod_int Tryd.underlying2 f1
    obtain ⟨s, e2, rfl, w2⟩ := DataW.trod_string Tryd.underlying9 f2
    simp only [List.cons.injEq, and_true] at e0 e1 e2
    subst e0; subst e1; subst e2
    obtain ⟨hn1, hn2⟩ := bounds_i64 w1
    simp only [Prod.mk.injEq, List.map_cons, List.map_nil] at hx
    obtain ⟨rfl, _⟩ := hx
    simp only [Rows.uptoBulk, Rows.uptoBulkAll, string_len] at hk ⊢
    rcases DataW.trod_slice Tryd.underlying23 f3 with ⟨e3, rfl⟩ | ⟨a, len, cap, elems, rst, m, rfl, e3, rfl, hb, hlc, hcm, hel, hE, _, _⟩
    · simp only [List.cons.injEq, and_true] at e3
      subst e3
      exact ⟨.mk op nn s [], none, 0, rfl, .nil ⟨by omega, hn1, hn2⟩, by rw [Ex.sz]; simp only [Rows.uptoBulk, szs, List.length_nil] at hk ⊢; omega⟩
    · simp only [List.cons.injEq, and_true] at e3
      subst e3
      simp only [Rows.uptoBulk] at hk ⊢
      rcases Nat.eq_zero_or_pos len with h0 | h0
      · subst h0
        exact ⟨.mk op nn s [], some a, cap, rfl, .nil ⟨by omega, hn1, hn2⟩, by rw [Ex.sz]; simp only [szs, List.length_nil]; omega⟩
      · rw [cellsOf25] at hE
        obtain ⟨b, off, spot⟩ := a
        have hspot : spot = none := by
          have h1 := hE 0 h0
          rw [List.getElem?_eq_getElem (by omega)] at h1
          obtain ⟨cs', hc, _⟩ := Option.bind_eq_some_iff.1 h1
          have h2 := (cells_get hc).2 0 (by omega)
          rw [List.getElem?_eq_getElem (by rw [(cells_get hc).1]; omega)] at h2
          simpa [Addr.add] using World.cell?_spot h2
        subst hspot
        obtain ⟨nds, hnl, hnd⟩ := list_of (P := fun i (x : Nd) => W.cells? base ((⟨b, off, none⟩ : Addr).add (i * 4)) 4 = some (Nd.cs x) ∧ Tr W (fun b => b < W.heap.size) x.t x.A x.c ∧ ∃ e, elems[i]? = some e ∧ x.t.sz + 1 ≤ Rows.uptoBulk e.1) len (fun i hi => by
          have h1 := hE i hi
          rw [List.getElem?_eq_getElem (by omega)] at h1
          obtain ⟨cs', hc, ht⟩ := Option.bind_eq_some_iff.1 h1
          obtain ⟨t, A, c, rfl, hT, hz⟩ := tr_of_trod N m (by omega) cs' elems[i].1 elems[i].2 ht (by
            have := bulk_mem (elems.map (·.1)) i elems[i].1 (by rw [List.getElem?_map, List.getElem?_eq_getElem (by omega)]; rfl)
            omega)
          exact ⟨⟨t, A, c⟩, hc, hT, elems[i], List.getElem?_eq_getElem (by omega), hz⟩)
        have hsum := bulk_nds nds (elems.map (·.1)) (by simp; omega) (fun i x e hx he => by
          obtain ⟨_, _, e', he', hz⟩ := hnd i x hx
          rw [List.getElem?_map, he'] at he
          simp at he; subst he; exact hz)
        have hCl : Cl W b off (nds.flatMap Nd.cs) := fun q v hv => by
          obtain ⟨i, j, x, rfl, hj, hx, hxj⟩ := flat_inv Nd.cs 4 (fun _ => rfl) nds q v hv
          have h2 := (cells_get (hnd i x hx).1).2 j hj
          rw [hxj, addr_add, addr_add, Nat.add_assoc] at h2
          exact h2
        have hbl : b < W.heap.size := by
          have hx0 : nds[0]? = some nds[0] := List.getElem?_eq_getElem (by omega)
          have h2 := (cells_get (hnd 0 _ hx0).1).2 0 (by omega)
          rw [addr_add, addr_add] at h2
          exact World.block_lt_of_cell? W _ (h2.trans rfl)
        have hnode := Tr.node (w := W) (S := fun b => b < W.heap.size) (op := op) (n := nn) (nm := s) (c := cap) (b := b) (o := off) ⟨by omega, hn1, hn2⟩ nds (by omega) hbl hCl (fun x hx => by
          obtain ⟨i, hi⟩ := List.getElem?_of_mem hx
          exact (hnd i x hi).2.1)
        refine ⟨.mk op nn s (nds.map Nd.t), some ⟨b, off, none⟩, cap, ?_, hnode, ?_⟩
        · simp [Ex.cs, Ex.op, Ex.n, Ex.nm, Ex.args, hnl]
        · rw [Ex.sz]; simp only [List.length_map]; omega
/-- An argument that is a tree. -/
theorem open_expr {H : Type} {enc : TypeId × Value → H} {W : World} {base b2 : Nat} {sp : Nat → Bool} {held : Bool} {v : Value} {d : DataW H} {ps : List MemPlace} (hv : Value.okWide Tryd.prog W .any b2 25 v) (h : DataW.Trod enc Tryd.prog W base sp held 25 v d ps) (hk : Rows.uptoBulk d ≤ 1048576) :
    ∃ t A c, v = .agg (Ex.cs t A c).toArray ∧ Tr W (fun b => b < W.heap.size) t A c ∧ t.sz + 1 ≤ Rows.uptoBulk d := by
  unfold Value.okWide at hv
  rw [Tryd.underlying25] at hv
  obtain ⟨cs, rfl, _, _⟩ := hv
  obtain ⟨fuel, hf⟩ := h
  obtain ⟨t, A, c, h1, h2, h3⟩ := tr_of_trod fuel fuel (Nat.le_refl _) cs.toList d ps (by simpa [Value.cells] using hf) hk
  exact ⟨t, A, c, by rw [← h1], h2, h3⟩


end Go.Proofs.YtclokcmgigdjlaaDoor
