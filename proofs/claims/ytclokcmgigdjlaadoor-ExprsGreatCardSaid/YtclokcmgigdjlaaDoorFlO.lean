/- append of what lies anywhere; stores into a row of the call's own. No project text. -/
import Derived.Test.YtclokcmgigdjlaaDoorFlM
import Derived.Laws.CopyRow
set_option linter.unusedSimpArgs false
set_option linter.unusedVariables false
namespace Go.FL
open Go.RowKit
section
variable {P : Program} {n : Nat} {ds : List Deferred} {k : Ks} {l : Env} {w : World} {ops : Array Oper} {rest : List Oper} {o : Oper}
theorem append_runC {s x : Operand} {t e : TypeId} {i : TypeInfo} {zv : Value} {z bytes base m : Nat} {v : Value} {xs : List Value} {b off c j : Nat} {news : List Value}
    (ho : o.op = .call { callee := .builtin .append, args := #[s, x], argTypes := #[t, t] }) (ht : P.underlying t = some (.slice e)) (hi : P.info? e = some i) (hz : i.zero = some zv) (hsz : i.size = z) (hby : i.bytes = bytes) (hzs : zv.cells.size = z) (hz0 : Nat.blt 0 z = true)
    (hs : ev l s = some v) (hx : ev l x = some (.slice (some ⟨b, off, none⟩) j c)) (hO : Ow w base e z v m xs) (hC : Cl w b off news) (hl : news.length = j * z) (h1 : ∀ u, u ∈ news → u.oneCell' = true) (hb : base ≤ w.heap.size) (hm : (m + j) * bytes ≤ 140737488355328) (hbp : Nat.blt 0 bytes = true) :
    ∃ v' w', (∀ ρ, Agree ρ l → (execOp ρ o).run P w = .ok (.value v') w') ∧ Ow w' base e z v' (m + j) (xs ++ news) ∧ Kp (fun b => v.ownBlock = some b) w w' ∧ (v'.ownBlock = v.ownBlock ∨ v'.ownBlock = some w.heap.size) := by
  have hbp' : 0 < bytes := by simpa using hbp
  have hmm : m + j ≤ 140737488355328 := Nat.le_trans (Nat.le_mul_of_pos_right _ hbp') hm
  obtain ⟨v', w', hr, h2, h3, _, h5⟩ := run_append_own_at (P := P) w base t o.type e i zv z bytes ht hi hz hsz hby hzs (by simpa using hz0) v m xs hO ⟨b, off, none⟩ j c news hl
    (fun q u hu => by rw [addr_add]; exact hC q u hu) h1 (by simp only [maxLen]; omega) hm hb
  refine ⟨v', w', fun ρ hρ => ?_, h2, Ext.grown h3, h5⟩
  simp [execOp, ho, resolve, invoke, builtin, hρ s _ hs, hρ x _ hx, hr]
theorem SQ.appendC {d : Nat} {s x : Operand} {t e : TypeId} {i : TypeInfo} {zv : Value} {z bytes base m : Nat} {v : Value} {xs : List Value} {b off c j : Nat} {news : List Value}
    (ho : o.op = .call { callee := .builtin .append, args := #[s, x], argTypes := #[t, t] }) (hg : o.guard = none) (hd : o.dst = some d) (hn : Nat.blt d n = true) (ht : P.underlying t = some (.slice e)) (hi : P.info? e = some i) (hz : i.zero = some zv) (hsz : i.size = z) (hby : i.bytes = bytes) (hzs : zv.cells.size = z) (hz0 : Nat.blt 0 z = true)
    (hs : ev l s = some v) (hx : ev l x = some (.slice (some ⟨b, off, none⟩) j c)) (hO : Ow w base e z v m xs) (hC : Cl w b off news) (hl : news.length = j * z) (h1 : ∀ u, u ∈ news → u.oneCell' = true) (hb : base ≤ w.heap.size) (hm : (m + j) * bytes ≤ 140737488355328) (hbp : Nat.blt 0 bytes = true)
    (h : ∀ v' w', Ow w' base e z v' (m + j) (xs ++ news) → Kp (fun b => v.ownBlock = some b) w w' → (v'.ownBlock = v.ownBlock ∨ v'.ownBlock = some w.heap.size) → SQ P ops n ds k rest ((d, v') :: l) w') : SQ P ops n ds k (o :: rest) l w := by
  obtain ⟨v', w', h1, h2, h3, h4⟩ := append_runC ho ht hi hz hsz hby hzs hz0 hs hx hO hC hl h1 hb hm hbp
  exact SQ.op hg hd hn h1 (h v' w' h2 h3 h4)
theorem OW.appendC {K : Kont} {d : Nat} {s x : Operand} {t e : TypeId} {i : TypeInfo} {zv : Value} {z bytes base m : Nat} {v : Value} {xs : List Value} {b off c j : Nat} {news : List Value}
    (ho : o.op = .call { callee := .builtin .append, args := #[s, x], argTypes := #[t, t] }) (hd : o.dst = some d) (hn : Nat.blt d n = true) (ht : P.underlying t = some (.slice e)) (hi : P.info? e = some i) (hz : i.zero = some zv) (hsz : i.size = z) (hby : i.bytes = bytes) (hzs : zv.cells.size = z) (hz0 : Nat.blt 0 z = true)
    (hs : ev l s = some v) (hx : ev l x = some (.slice (some ⟨b, off, none⟩) j c)) (hO : Ow w base e z v m xs) (hC : Cl w b off news) (hl : news.length = j * z) (h1 : ∀ u, u ∈ news → u.oneCell' = true) (hb : base ≤ w.heap.size) (hm : (m + j) * bytes ≤ 140737488355328) (hbp : Nat.blt 0 bytes = true)
    (h : ∀ v' w', Ow w' base e z v' (m + j) (xs ++ news) → Kp (fun b => v.ownBlock = some b) w w' → (v'.ownBlock = v.ownBlock ∨ v'.ownBlock = some w.heap.size) → C n ds K ((d, v') :: l) w') : OW P o n ds k l w K := by
  obtain ⟨v', w', h1, h2, h3, h4⟩ := append_runC ho ht hi hz hsz hby hzs hz0 hs hx hO hC hl h1 hb hm hbp
  exact OW.op hd hn h1 (h v' w' h2 h3 h4)
theorem Ow.cap {base : Nat} {e : TypeId} {z m : Nat} {v : Value} {xs : List Value} (h : Ow w base e z v m xs) : ∃ A c, v = .slice A m c ∧ m ≤ c := by
  rcases h.2 with ⟨rfl, rfl⟩ | ⟨g, cap, cur, rfl, _, _, hc, _⟩
  · exact ⟨none, 0, rfl, Nat.le_refl _⟩
  · exact ⟨_, cap, rfl, hc⟩
/-- Nothing is put behind it. -/
theorem r_appendE {s x : Operand} {t e : TypeId} {A B : Option Addr} {m cap c z : Nat}
    (ho : o.op = .call { callee := .builtin .append, args := #[s, x], argTypes := #[t, t] }) (ht : P.underlying t = some (.slice e)) (hsz : ∀ w, (sizeOf e).run P w = .ok z w)
    (hs : ev l s = some (.slice A m cap)) (hx : ev l x = some (.slice B 0 c)) (hm : m ≤ cap) : Run P o l w (.slice A m cap) w := fun ρ hρ => by
  have hl : ∀ a, (loadCells a 0).run P w = .ok #[] w := fun a => by simpa using run_loadCells_list (P := P) w a [] (by simp)
  cases A <;> cases B <;> simp [execOp, ho, resolve, invoke, builtin, hρ s _ hs, hρ x _ hx, Builtin.append_, run_underlying ht, hsz, Builtin.lenOf, Builtin.firstCells, hm, storeCells, hl]
theorem splice_take {α : Type} (X vs : List α) {i z m : Nat} (hv : vs.length = z) (h : i + z ≤ m) (hm : m ≤ X.length) : (X.take i ++ vs ++ X.drop (i + z)).take m = (X.take m).take i ++ vs ++ (X.take m).drop (i + z) := by
  have e1 : (X.take i ++ vs).length = i + z := by simp [hv]; omega
  rw [List.take_append, List.take_of_length_le (by omega : (X.take i ++ vs).length ≤ m), e1, List.take_take, Nat.min_eq_left (by omega), List.drop_take]
/-- A struct, stored into a row of the call's own. -/
theorem SQ.storeRow {b base z m j cap : Nat} {vs xs : List Value} {t e : TypeId} {x y : Operand}
    (ho : o.op = .store t x y) (hg : o.guard = none) (hd : o.dst = none) (hx : ev l x = some (.pointer (some ⟨b, j * z, none⟩))) (hy : ev l y = some (.agg vs.toArray)) (hs : ∀ w, (sizeOf t).run P w = .ok z w) (h1 : ∀ u, u ∈ vs → u.oneCell' = true)
    (hO : Ow w base e z (.slice (some ⟨b, 0, none⟩) m cap) m xs) (hv : vs.length = z) (hj : j < m)
    (h : ∀ w', Ow w' base e z (.slice (some ⟨b, 0, none⟩) m cap) m (xs.take (j * z) ++ vs ++ xs.drop (j * z + z)) → Kp (fun c => c = b) w w' → SQ P ops n ds k rest l w') : SQ P ops n ds k (o :: rest) l w := by
  obtain ⟨hlen, hrow⟩ := hO
  rcases hrow with ⟨h0, _⟩ | ⟨g, cap', cur, hv', hb, hgh, hc, hcm, hcs, ht⟩
  · cases h0
  cases hv'
  have hle : j * z + z ≤ m * z := by have := Nat.mul_le_mul_right z hj; rwa [Nat.succ_mul] at this
  have hle2 : m * z ≤ cap * z := Nat.mul_le_mul_right z hc
  have hst := run_storeCells_at (P := P) b (j * z) e vs 0 cur w hgh (by rw [hv, hcs]; omega) h1
  refine SQ.op0 (w' := w.setRow b (cur.toList.take (j * z + 0) ++ vs ++ cur.toList.drop (j * z + 0 + vs.length)).toArray) hg hd (fun ρ hρ => ?_) (h _ ?_ (setRow_kp w b _))
  · simp [execOp, ho, hρ x _ hx, hρ y _ hy, Instr.storeAt, Instr.sureAddr, storeVar, Value.cells, hs, hv, hst]
  · have hcl : cur.toList.length = cap * z := by simpa using hcs
    have hxs : xs = cur.toList.take (m * z) := ht.symm
    refine ⟨?_, .inr ⟨b, cap, _, rfl, hb, setRow_heap w b cur _ e (0, 0) hgh, hc, hcm, ?_, ?_⟩⟩
    · simp only [List.length_append, List.length_take, List.length_drop, hlen, hv]; omega
    · simp only [List.size_toArray, List.length_append, List.length_take, List.length_drop, hcl, hv]; omega
    · simp only [Nat.add_zero, hv]
      rw [hxs]
      exact splice_take _ _ hv hle (by rw [hcl]; exact hle2)
theorem flat_set {α : Type} (g : α → List Value) (z : Nat) (hz : ∀ x, (g x).length = z) : ∀ (L : List α) (j : Nat) (y : α), j < L.length → (L.flatMap g).take (j * z) ++ g y ++ (L.flatMap g).drop (j * z + z) = (L.set j y).flatMap g
  | [], _, _, h => by simp at h
  | x :: r, 0, y, _ => by
    simp only [Nat.zero_mul, List.take_zero, List.nil_append, Nat.zero_add, List.flatMap_cons, List.set_cons_zero]
    rw [List.drop_append, hz, List.drop_of_length_le (by rw [hz]; exact Nat.le_refl _)]; simp
  | x :: r, j + 1, y, h => by
    have ih := flat_set g z hz r j y (by simpa using h)
    simp only [List.flatMap_cons, List.set_cons_succ]
    rw [← ih, List.take_append, List.drop_append, hz, List.take_of_length_le (by rw [hz, Nat.succ_mul]; omega), List.drop_of_length_le (by rw [hz, Nat.succ_mul]; omega)]
    have e1 : (j + 1) * z - z = j * z := by rw [Nat.succ_mul]; omega
    have e2 : (j + 1) * z + z - z = j * z + z := by rw [Nat.succ_mul]; omega
    rw [e1, e2]; simp
end
end Go.FL
