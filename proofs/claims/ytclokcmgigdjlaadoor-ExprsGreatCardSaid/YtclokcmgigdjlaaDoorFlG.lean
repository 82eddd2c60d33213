/- Operations, one law each, over frames that are lists. No project text. -/
import Derived.Test.YtclokcmgigdjlaaDoorFlF
set_option linter.unusedSimpArgs false
set_option linter.unusedVariables false
namespace Go.FL
open Go.RowKit
section
variable {P : Program} {l : Env} {w : World} {o : Oper}
theorem r_move {x : Operand} {v : Value} (ho : o.op = .move x) (hx : ev l x = some v) : Run P o l w v w := fun ρ hρ => by
  simp [execOp, ho, hρ x v hx]
theorem r_assign {x : Operand} {v : Value} (ho : o.op = .assign x) (hx : ev l x = some v) : Run P o l w v w := fun ρ hρ => by
  simp [execOp, ho, hρ x v hx]
theorem r_pick {c x y : Operand} {b : Bool} {v u : Value} (ho : o.op = .pick c x y) (hc : ev l c = some (.bool b)) (hx : ev l x = some v) (hy : ev l y = some u) : Run P o l w (if b = true then v else u) w := fun ρ hρ => by
  cases b <;> simp [execOp, ho, hρ c _ hc, hρ x v hx, hρ y u hy, asBool]
theorem r_pick_t {c x y : Operand} {v : Value} (ho : o.op = .pick c x y) (hc : ev l c = some (.bool true)) (hx : ev l x = some v) : Run P o l w v w := fun ρ hρ => by
  simp [execOp, ho, hρ c _ hc, hρ x v hx, asBool]
theorem r_pick_f {c x y : Operand} {v : Value} (ho : o.op = .pick c x y) (hc : ev l c = some (.bool false)) (hx : ev l y = some v) : Run P o l w v w := fun ρ hρ => by
  simp [execOp, ho, hρ c _ hc, hρ y v hx, asBool]
theorem r_nilCheck {x : Operand} {a : Addr} (ho : o.op = .nilCheck x) (hx : ev l x = some (.pointer (some a))) : Run P o l w (.pointer (some a)) w := fun ρ hρ => by
  simp [execOp, ho, hρ x _ hx]
theorem r_nilCheckF {x : Operand} {f : FuncId} {a b : Array Value} (ho : o.op = .nilCheck x) (hx : ev l x = some (.func (.func f) a b)) : Run P o l w (.func (.func f) a b) w := fun ρ hρ => by
  simp [execOp, ho, hρ x _ hx]
theorem r_fieldAddr {s : TypeId} {x : Operand} {i b q k q' : Nat} {fs : Array Field} {f : Field} (ho : o.op = .fieldAddr s x i) (hx : ev l x = some (.pointer (some ⟨b, q, none⟩)))
    (hu : P.underlying s = some (.struct fs)) (hf : fs[i]? = some f) (hz : ∀ w, (sizeOf f.type).run P w = .ok (k + 1) w) (hq : q + f.offset = q') :
    Run P o l w (.pointer (some ⟨b, q', none⟩)) w := fun ρ hρ => by
  subst hq
  simp [execOp, ho, hρ x _ hx, Instr.fieldAt, run_underlying hu, hf, Instr.sureAddr, fieldPlace, hz, addr_add]
theorem r_load {t : TypeId} {x : Operand} {a : Addr} {v : Value} (ho : o.op = .load t x) (hx : ev l x = some (.pointer (some a))) (hA : ∀ w, (isAgg t).run P w = .ok false w) (hc : w.cell? a = some v) :
    Run P o l w v w := fun ρ hρ => by
  simp [execOp, ho, hρ x _ hx, Instr.loadAt, Instr.sureAddr, loadVar, hA, hc]
theorem r_loadAgg {t : TypeId} {x : Operand} {b q n : Nat} {cs : List Value} (ho : o.op = .load t x) (hx : ev l x = some (.pointer (some ⟨b, q, none⟩))) (hA : ∀ w, (isAgg t).run P w = .ok true w)
    (hz : ∀ w, (sizeOf t).run P w = .ok n w) (hn : cs.length = n) (hc : ∀ j v, cs[j]? = some v → w.cell? ⟨b, q + j, none⟩ = some v) :
    Run P o l w (.agg cs.toArray) w := fun ρ hρ => by
  subst hn
  have h := run_loadCells_list (P := P) w ⟨b, q, none⟩ cs (fun j v hv => by rw [addr_add]; exact hc j v hv)
  simp [execOp, ho, hρ x _ hx, Instr.loadAt, Instr.sureAddr, loadVar, hA, hz, h]
theorem r_indexAddr {t e : TypeId} {x i : Operand} {b q n c z j : Nat} {k : IntKind} {m : Int} (ho : o.op = .indexAddr t x i) (hx : ev l x = some (.slice (some ⟨b, q, none⟩) n c)) (hi : ev l i = some (.int k m))
    (hu : P.underlying t = some (.slice e)) (hz : ∀ w, (sizeOf e).run P w = .ok z w) (hj : m = (j : Int)) (hlt : j < n) :
    Run P o l w (.pointer (some ⟨b, q + j * z, none⟩)) w := fun ρ hρ => by
  subst hj
  have h0 : (j : Int) < (n : Int) := by omega
  simp [execOp, ho, hρ x _ hx, hρ i _ hi, Instr.indexAt, asIntOf, run_underlying hu, hlt, hz, addr_add]
theorem r_indexAddrA {t e : TypeId} {x i : Operand} {b q n z j : Nat} {k : IntKind} {m : Int} (ho : o.op = .indexAddr t x i) (hx : ev l x = some (.pointer (some ⟨b, q, none⟩))) (hi : ev l i = some (.int k m))
    (hu : P.underlying t = some (.array n e)) (hz : ∀ w, (sizeOf e).run P w = .ok z w) (hj : m = (j : Int)) (hlt : j < n) :
    Run P o l w (.pointer (some ⟨b, q + j * z, none⟩)) w := fun ρ hρ => by
  subst hj
  have h0 : (j : Int) < (n : Int) := by omega
  simp [execOp, ho, hρ x _ hx, hρ i _ hi, Instr.indexAt, Instr.sureAddr, asIntOf, run_underlying hu, hlt, hz, addr_add]
/-- A byte of a string, as a number; 0 behind its end. -/
def byteAt (s : ByteArray) (i : Nat) : Nat := if h : i < s.size then (s[i]'h).toNat else 0
theorem byteAt_lt {s : ByteArray} {i : Nat} (h : i < s.size) : (s[i]'h).toNat = byteAt s i := by simp [byteAt, h]
theorem byteAt_le (s : ByteArray) (i : Nat) : byteAt s i ≤ 255 := by
  unfold byteAt; split
  · rename_i h; have := (s[i]'h).toNat_lt; omega
  · omega
theorem ret_int {k : IntKind} {a b : Int} (h : a = b) : Ending.returned (.int k a) = .returned (.int k b) := by rw [h]
/-- A byte of a string. -/
theorem r_indexStr {t : TypeId} {x i : Operand} {s : ByteArray} {k : IntKind} {m : Int} {j : Nat} (ho : o.op = .index t x i) (hx : ev l x = some (.string s)) (hi : ev l i = some (.int k m))
    (hu : P.underlying t = some .string) (hj : m = (j : Int)) (hlt : j < s.size) :
    Run P o l w (.int .u8 (byteAt s j : Int)) w := fun ρ hρ => by
  subst hj
  rw [← byteAt_lt hlt]
  simp [execOp, ho, hρ x _ hx, hρ i _ hi, Instr.index, asIntOf, run_underlying hu, hlt]
theorem r_indexArr1 {t e : TypeId} {x i : Operand} {cs : List Value} {n z j : Nat} {k : IntKind} {m : Int} {v : Value} (ho : o.op = .index t x i) (hx : ev l x = some (.agg cs.toArray)) (hi : ev l i = some (.int k m))
    (hu : P.underlying t = some (.array n e)) (hz : ∀ w, (sizeOf e).run P w = .ok z w) (hA : ∀ w, (isAgg e).run P w = .ok false w) (hj : m = (j : Int)) (hlt : j < n) (hv : nth cs (j * z) = some v) :
    Run P o l w v w := fun ρ hρ => by
  rw [nth_eq] at hv
  subst hj
  simp [execOp, ho, hρ x _ hx, hρ i _ hi, Instr.index, asIntOf, run_underlying hu, hlt, hz, part, hA, hv]
theorem r_field1 {t : TypeId} {x : Operand} {i : Nat} {fs : Array Field} {f : Field} {cs : List Value} {v : Value} (ho : o.op = .field t x i) (hx : ev l x = some (.agg cs.toArray)) (hu : P.underlying t = some (.struct fs)) (hf : fs[i]? = some f)
    (hA : ∀ w, (isAgg f.type).run P w = .ok false w) (hv : nth cs f.offset = some v) : Run P o l w v w := fun ρ hρ => by
  rw [nth_eq] at hv
  simp [execOp, ho, hρ x _ hx, Instr.field, run_underlying hu, hf, asAgg, part, hA, hv]
theorem extract_sub {cs cs' : List Value} {i z : Nat} (hs : subK cs i z some = some cs') : cs.toArray.extract i (i + z) = cs'.toArray := by
  obtain ⟨_, h⟩ := subK_eq _ _ _ _ _ hs
  have h' : (cs.drop i).take z = cs' := by simpa using h
  rw [← h']
  apply Array.ext'
  simp [List.extract_eq_drop_take']
theorem r_fieldA {t : TypeId} {x : Operand} {i z : Nat} {fs : Array Field} {f : Field} {cs cs' : List Value} (ho : o.op = .field t x i) (hx : ev l x = some (.agg cs.toArray)) (hu : P.underlying t = some (.struct fs)) (hf : fs[i]? = some f)
    (hA : ∀ w, (isAgg f.type).run P w = .ok true w) (hz : ∀ w, (sizeOf f.type).run P w = .ok z w) (hs : subK cs f.offset z some = some cs') : Run P o l w (.agg cs'.toArray) w := fun ρ hρ => by
  rw [← extract_sub hs]
  simp [execOp, ho, hρ x _ hx, Instr.field, run_underlying hu, hf, asAgg, part, hA, hz]
theorem r_indexArrA {t e : TypeId} {x i : Operand} {cs cs' : List Value} {n z j : Nat} {k : IntKind} {m : Int} (ho : o.op = .index t x i) (hx : ev l x = some (.agg cs.toArray)) (hi : ev l i = some (.int k m))
    (hu : P.underlying t = some (.array n e)) (hz : ∀ w, (sizeOf e).run P w = .ok z w) (hA : ∀ w, (isAgg e).run P w = .ok true w) (hj : m = (j : Int)) (hlt : j < n) (hs : subK cs (j * z) z some = some cs') :
    Run P o l w (.agg cs'.toArray) w := fun ρ hρ => by
  rw [← extract_sub hs]
  subst hj
  simp [execOp, ho, hρ x _ hx, hρ i _ hi, Instr.index, asIntOf, run_underlying hu, hlt, hz, part, hA]
theorem r_extract {x : Operand} {i : Nat} {vs : List Value} {v : Value} (ho : o.op = .extract x i) (hx : ev l x = some (.tuple vs.toArray)) (hv : nth vs i = some v) : Run P o l w v w := fun ρ hρ => by
  rw [nth_eq] at hv
  simp [execOp, ho, hρ x _ hx, Instr.extract, hv]
theorem evs {ρ : Operand → Value} (hρ : Agree ρ l) : ∀ (xs : List Operand) (vs : List Value), xs.map (ev l) = vs.map some → xs.map ρ = vs
  | [], [], _ => rfl
  | [], _ :: _, h => by simp at h
  | _ :: _, [], h => by simp at h
  | x :: xs, v :: vs, h => by
    simp only [List.map_cons, List.cons.injEq] at h ⊢
    exact ⟨hρ x v h.1, evs hρ xs vs h.2⟩
/-- Operands, each what it is, written out. -/
def evK (l : Env) : List Operand → (List Value → Option (List Value)) → Option (List Value)
  | [], k => k []
  | x :: xs, k => match ev l x with
    | some v => evK l xs fun r => k (v :: r)
    | none => none
theorem evK_eq {ρ : Operand → Value} (hρ : Agree ρ l) : ∀ (xs : List Operand) (k) (r), evK l xs k = some r → k (xs.map ρ) = some r
  | [], k, r, h => by simpa [evK] using h
  | x :: xs, k, r, h => by
    unfold evK at h
    cases hx : ev l x with
    | none => simp [hx] at h
    | some v =>
      rw [hx] at h
      have := evK_eq hρ xs _ r h
      simpa [hρ x v hx] using this
theorem evK_map {ρ : Operand → Value} (hρ : Agree ρ l) {xs : List Operand} {vs : List Value} (h : evK l xs some = some vs) : xs.map ρ = vs := by simpa using evK_eq hρ xs some vs h
theorem r_makeFunc {fn : Fn} {fs cs : List Operand} {us vs : List Value} (ho : o.op = .makeFunc fn fs.toArray cs.toArray) (hf : evK l fs some = some us) (hc : evK l cs some = some vs) :
    Run P o l w (.func fn us.toArray vs.toArray) w := fun ρ hρ => by
  simp [execOp, ho, Instr.makeFunc, evK_map hρ hf, evK_map hρ hc]
theorem r_box {t : TypeId} {x : Operand} {v : Value} (ho : o.op = .box t x) (hx : ev l x = some v) : Run P o l w (.pointer (some ⟨w.heap.size, 0, none⟩)) (w.alloc (.cells v.cells t)) := fun ρ hρ => by
  simp [execOp, ho, hρ x _ hx, Instr.box, newVar, newRow]
theorem r_alloc {t : TypeId} {z : Value} (ho : o.op = .alloc t) (hz : ∀ w, (zeroValue t).run P w = .ok z w) : Run P o l w (.pointer (some ⟨w.heap.size, 0, none⟩)) (w.alloc (.cells z.cells t)) := fun ρ hρ => by
  simp [execOp, ho, Instr.alloc, newVar, newRow, hz]
theorem r_makeMap {t : TypeId} (ho : o.op = .makeMap t none) : Run P o l w (.map (some w.heap.size)) (w.alloc (.map #[] 0)) := fun ρ hρ => by
  simp [execOp, ho, Instr.makeMap]
/-- Parts of a struct or an array, in their places. -/
def evParts (l : Env) : List (Nat × Operand) → Option (List (Nat × Value))
  | [] => some []
  | (i, x) :: r => match ev l x, evParts l r with
    | some v, some vs => some ((i, v) :: vs)
    | _, _ => none
theorem evParts_map {ρ : Operand → Value} (hρ : Agree ρ l) : ∀ (ps : List (Nat × Operand)) (vs : List (Nat × Value)), evParts l ps = some vs → ps.map (fun p => (p.1, ρ p.2)) = vs
  | [], vs, h => by simp [evParts] at h; simp [h]
  | (i, x) :: r, vs, h => by
    unfold evParts at h
    cases hx : ev l x with
    | none => simp [hx] at h
    | some v =>
      cases hr : evParts l r with
      | none => simp [hx, hr] at h
      | some us =>
        simp [hx, hr] at h
        subst h
        simp [hρ x v hx, evParts_map hρ r us hr]
/-- A value's cells as a list, by sight. -/
def cellsL : Value → List Value
  | .agg cs => cs.toList
  | v => [v]
theorem cellsL_eq (v : Value) : v.cells = (cellsL v).toArray := by cases v <;> simp [cellsL, Value.cells]
def putAllK : List Value → Nat → List Value → (List Value → Option (List Value)) → Option (List Value)
  | l, _, [], k => k l
  | l, off, v :: r, k => updK l off v fun l' => putAllK l' (off + 1) r k
def nthP : List (Nat × Nat) → Nat → Option (Nat × Nat)
  | [], _ => none
  | p :: _, 0 => some p
  | _ :: r, n + 1 => nthP r n
theorem nthP_eq : ∀ (l : List (Nat × Nat)) (i : Nat), nthP l i = l[i]?
  | [], _ => by simp [nthP]
  | _ :: _, 0 => by simp [nthP]
  | _ :: r, n + 1 => by simp [nthP, nthP_eq r n]
def fillK (pl : Nat → Option (Nat × Nat)) : List (Nat × Value) → List Value → (List Value → Option (List Value)) → Option (List Value)
  | [], l, k => k l
  | (i, v) :: r, l, k => match pl i with
    | some (off, z) => bif Nat.beq (cellsL v).length z then putAllK l off (cellsL v) fun l' => fillK pl r l' k else none
    | none => none
theorem putAllK_eq : ∀ (vs l : List Value) (off j : Nat) (k) (r), putAllK l (off + j) vs k = some r →
    ∃ l', k l' = some r ∧ (vs = [] ∨ off + j + vs.length ≤ l.length) ∧ (vs.zipIdx j).foldl (fun cs (x : Value × Nat) => cs.setIfInBounds (off + x.2) x.1) l.toArray = l'.toArray
  | [], l, off, j, k, r, h => ⟨l, by simpa [putAllK] using h, .inl rfl, by simp⟩
  | v :: vs, l, off, j, k, r, h => by
    unfold putAllK at h
    obtain ⟨hlt, h1⟩ := updK_eq _ _ _ _ _ h
    obtain ⟨l', h2, h3, h4⟩ := putAllK_eq vs (l.set (off + j) v) off (j + 1) k r (by rw [← Nat.add_assoc]; exact h1)
    refine ⟨l', h2, .inr ?_, ?_⟩
    · rcases h3 with rfl | h3
      · simp; omega
      · simp at h3 ⊢; omega
    · rw [List.zipIdx_cons, List.foldl_cons, ← h4]
      congr 1
      simp
theorem fillK_eq {pl : Nat → Option (Nat × Nat)} : ∀ (ps : List (Nat × Value)) (l : List Value) (k) (r), fillK pl ps l k = some r → (∀ i v off z, (i, v) ∈ ps → pl i = some (off, z) → 0 < z) →
    ∃ l', Instr.fill pl l.toArray ps = some l'.toArray ∧ k l' = some r
  | [], l, k, r, h, _ => ⟨l, by simp [Instr.fill], by simpa [fillK] using h⟩
  | (i, v) :: ps, l, k, r, h, hz => by
    unfold fillK at h
    cases hp : pl i with
    | none => simp [hp] at h
    | some oz =>
      obtain ⟨off, z⟩ := oz
      simp only [hp] at h
      by_cases hb : Nat.beq (cellsL v).length z = true
      · rw [hb] at h
        have hlen : (cellsL v).length = z := Nat.eq_of_beq_eq_true hb
        have hz0 := hz i v off z (by simp) hp
        have h' : putAllK l (off + 0) (cellsL v) (fun l' => fillK pl ps l' k) = some r := h
        obtain ⟨l1, h2, hle, hfold⟩ := putAllK_eq (cellsL v) l off 0 _ r h'
        have hle' : off + z ≤ l.length := by
          rcases hle with e | e
          · rw [e] at hlen; simp at hlen; omega
          · omega
        obtain ⟨l', h3, h4⟩ := fillK_eq ps _ k r h2 (fun i' v' o' z' hm hp' => hz i' v' o' z' (by simp [hm]) hp')
        refine ⟨l', ?_, h4⟩
        unfold Instr.fill
        simp only [hp, cellsL_eq]
        rw [if_neg (by simp [hlen]; omega)]
        rw [← h3, ← hfold, ← Array.foldl_toList]
        simp
      · simp only [Bool.not_eq_true] at hb
        rw [hb] at h
        cases h
theorem r_build {t : TypeId} {ps : List (Nat × Operand)} {vs : List (Nat × Value)} {fs : Array Field} {zs cs : List Value} {pl : List (Nat × Nat)} (ho : o.op = .build t ps.toArray) (hp : evParts l ps = some vs) (hu : P.underlying t = some (.struct fs))
    (hz : ∀ w, (zeroValue t).run P w = .ok (.agg zs.toArray) w) (hpl : ∀ w, (fs.mapM fun f => do pure (f.offset, ← sizeOf f.type) : Sem (Array (Nat × Nat))).run P w = .ok pl.toArray w) (h0 : pl.all (fun p => Nat.blt 0 p.2) = true)
    (hf : fillK (nthP pl) vs zs some = some cs) : Run P o l w (.agg cs.toArray) w := fun ρ hρ => by
  have hm := evParts_map hρ _ _ hp
  obtain ⟨l', h1, h2⟩ := fillK_eq vs zs some cs hf (fun i v off z _ hi => by
    rw [nthP_eq] at hi
    have := List.all_eq_true.1 h0 _ (List.mem_of_getElem? hi)
    simpa using this)
  obtain rfl : l' = cs := by simpa using h2
  simp only [execOp, ho, Sem.run_bind, List.map_toArray]
  rw [show (List.map (fun x : Nat × Operand => match x with | (i, x) => (i, ρ x)) ps) = vs from hm]
  have h1' : Instr.fill (fun x => pl.toArray[x]?) zs.toArray vs = some l'.toArray := by rw [← h1]; congr 1; funext x; rw [nthP_eq pl x]; simp
  simp only [Instr.build, Sem.run_bind, hz, Result.andThen_ok, run_underlying hu, hpl, Value.cells, h1']
  rfl
theorem r_buildArr {t e : TypeId} {n z : Nat} {ps : List (Nat × Operand)} {vs : List (Nat × Value)} {zs cs : List Value} (ho : o.op = .build t ps.toArray) (hp : evParts l ps = some vs) (hu : P.underlying t = some (.array n e))
    (hz : ∀ w, (zeroValue t).run P w = .ok (.agg zs.toArray) w) (hs : ∀ w, (sizeOf e).run P w = .ok (z + 1) w) (hf : fillK (fun i => some (i * (z + 1), z + 1)) vs zs some = some cs) : Run P o l w (.agg cs.toArray) w := fun ρ hρ => by
  have hm := evParts_map hρ _ _ hp
  obtain ⟨l', h1, h2⟩ := fillK_eq vs zs some cs hf (fun i v off z' _ hi => by simp at hi; omega)
  obtain rfl : l' = cs := by simpa using h2
  simp only [execOp, ho, Sem.run_bind, List.map_toArray]
  rw [show (List.map (fun x : Nat × Operand => match x with | (i, x) => (i, ρ x)) ps) = vs from hm]
  simp [Instr.build, run_underlying hu, hz, hs, Value.cells, h1]
/-- So many times the same cells. -/
def repK (z : List Value) : Nat → (List Value → Option (List Value)) → Option (List Value)
  | 0, k => k []
  | n + 1, k => repK z n fun r => appK z r k
where appK : List Value → List Value → (List Value → Option (List Value)) → Option (List Value)
  | [], r, k => k r
  | x :: xs, r, k => appK xs r fun r' => k (x :: r')
theorem appK_eq : ∀ (z r : List Value) (k), repK.appK z r k = k (z ++ r)
  | [], r, k => rfl
  | x :: xs, r, k => by simp [repK.appK, appK_eq xs r]
theorem repK_eq (z : List Value) : ∀ (n : Nat) (k), repK z n k = k (List.replicate n z).flatten
  | 0, k => rfl
  | n + 1, k => by
    unfold repK
    rw [repK_eq z n]
    simp [appK_eq, List.replicate_succ]
theorem flat_rep (z : List Value) (n : Nat) : (List.replicate n z).flatten.toArray = (Array.range (n * z.length)).map (fun i => z.toArray[i % z.toArray.size]!) := by
  induction n with
  | zero => simp
  | succ n ih =>
    rw [List.replicate_succ', List.flatten_append]
    simp only [List.flatten_cons, List.flatten_nil, List.append_nil]
    apply Array.ext
    · simp [Nat.succ_mul]
    · intro i h1 h2
      have hl : (List.replicate n z).flatten.length = n * z.length := by simp
      have h1' : i < n * z.length + z.length := by simpa [hl] using h1
      simp only [List.getElem_toArray, List.getElem_append, hl]
      by_cases hi : i < n * z.length
      · rw [dif_pos hi]
        have h3 := congrArg (fun a : Array Value => a[i]?) ih
        simp only [List.getElem?_toArray, Array.getElem?_map] at h3
        rw [List.getElem?_eq_getElem (by rw [hl]; exact hi)] at h3
        rw [Array.getElem?_eq_getElem (by simpa using hi)] at h3
        simpa using h3
      · rw [dif_neg hi]
        have hz : 0 < z.length := by
          rcases Nat.eq_zero_or_pos z.length with h | h
          · simp [h] at h1'
          · exact h
        have hm : i % z.length = i - n * z.length := by
          have hc := Nat.mul_comm z.length n
          obtain ⟨q, hq⟩ : ∃ q, i = q + z.length * n := ⟨i - n * z.length, by omega⟩
          rw [hq, Nat.add_mul_mod_self_left]
          rw [Nat.mod_eq_of_lt (by omega)]
          omega
        have hlt : i - n * z.length < z.length := by omega
        simp [hm, hlt]
theorem r_buildSlice {t e : TypeId} {n z : Nat} {ps : List (Nat × Operand)} {vs : List (Nat × Value)} {zv : Value} {zs cs : List Value} (ho : o.op = .buildSlice t n ps.toArray) (hp : evParts l ps = some vs) (hu : P.underlying t = some (.slice e))
    (hs : ∀ w, (sizeOf e).run P w = .ok (z + 1) w) (hzv : ∀ w, (zeroValue e).run P w = .ok zv w) (hzl : (cellsL zv).length = z + 1) (hn : Nat.blt 0 n = true) (hbig : Nat.ble (n * (z + 1)) 16777216 = true) (hr : repK (cellsL zv) n some = some zs)
    (hf : fillK (fun i => some (i * (z + 1), z + 1)) vs zs some = some cs) :
    Run P o l w (.slice (some ⟨w.heap.size, 0, none⟩) n n) (w.alloc (.cells cs.toArray e)) := fun ρ hρ => by
  have hm := evParts_map hρ _ _ hp
  obtain ⟨l', h1, h2⟩ := fillK_eq vs zs some cs hf (fun i v off z' _ hi => by simp at hi; omega)
  obtain rfl : l' = cs := by simpa using h2
  rw [repK_eq] at hr
  have hr' : (List.replicate n (cellsL zv)).flatten = zs := by simpa using hr
  have hfl := flat_rep (cellsL zv) n
  rw [hr', hzl] at hfl
  have hn' : 0 < n := by simpa using hn
  have hb' : n * (z + 1) ≤ 16777216 := by simpa using hbig
  have hne : ¬ n * (z + 1) = 0 := by
    have : 0 < n * (z + 1) := Nat.mul_pos hn' (by omega)
    omega
  have hbig' : ¬ 2 ^ 24 < n * (z + 1) := by omega
  simp only [execOp, ho, Sem.run_bind, List.map_toArray]
  rw [show (List.map (fun x : Nat × Operand => match x with | (i, x) => (i, ρ x)) ps) = vs from hm]
  have hfl' : (Array.range (n * (z + 1))).map (fun i => (cellsL zv).toArray[i % (cellsL zv).toArray.size]!) = zs.toArray := hfl.symm
  simp only [Instr.buildSlice, Sem.run_bind, run_underlying hu, Result.andThen_ok, hs]
  rw [if_neg (by omega), if_neg hne]
  simp only [Sem.run_bind, Sem.run_pure, hzv, Result.andThen_ok, cellsL_eq, hfl', h1, newRow]
  simp
theorem r_buildSlice0 {t e : TypeId} {z : Nat} (ho : o.op = .buildSlice t 0 #[]) (hu : P.underlying t = some (.slice e)) (hs : ∀ w, (sizeOf e).run P w = .ok z w) :
    Run P o l w (.slice (some ⟨w.heap.size, 0, none⟩) 0 0) (w.alloc (.cells (List.toArray []) e)) := fun ρ hρ => by
  have h0 : Array.range 0 = #[] := rfl
  simp [execOp, ho, Instr.buildSlice, run_underlying hu, hs, Instr.fill, newRow, h0]
/-! ### Numbers, strings, yes and no -/
theorem guardInt {op : BinOp} {t : TypeId} {x y : Operand} {k k' : IntKind} {a b : Int} : (eqGuard op t x y (.int k a) (.int k' b)).run P w = .ok () w := by
  cases op <;> simp [eqGuard]
theorem r_arith {op : BinOp} {t u : TypeId} {x y : Operand} {k : IntKind} {a b c : Int} (ho : o.op = .binOp op t x y u) (hx : ev l x = some (.int k a)) (hy : ev l y = some (.int k b))
    (hc : (Op.intArith op k a b).run P w = .ok (.int k c) w) (hop : op = .add ∨ op = .sub ∨ op = .mul) : Run P o l w (.int k c) w := fun ρ hρ => by
  rcases hop with rfl | rfl | rfl <;> simp [execOp, ho, hρ x _ hx, hρ y _ hy, guardInt, binOp, hc]
theorem r_add {t u : TypeId} {x y : Operand} {k : IntKind} {a b c : Int} (ho : o.op = .binOp .add t x y u) (hx : ev l x = some (.int k a)) (hy : ev l y = some (.int k b)) (hc : k.wrap (a + b) = c) : Run P o l w (.int k c) w :=
  r_arith ho hx hy (by simp [Op.intArith, hc]) (.inl rfl)
theorem r_sub {t u : TypeId} {x y : Operand} {k : IntKind} {a b c : Int} (ho : o.op = .binOp .sub t x y u) (hx : ev l x = some (.int k a)) (hy : ev l y = some (.int k b)) (hc : k.wrap (a - b) = c) : Run P o l w (.int k c) w :=
  r_arith ho hx hy (by simp [Op.intArith, hc]) (.inr (.inl rfl))
theorem r_mul {t u : TypeId} {x y : Operand} {k : IntKind} {a b c : Int} (ho : o.op = .binOp .mul t x y u) (hx : ev l x = some (.int k a)) (hy : ev l y = some (.int k b)) (hc : k.wrap (a * b) = c) : Run P o l w (.int k c) w :=
  r_arith ho hx hy (by simp [Op.intArith, hc]) (.inr (.inr rfl))
theorem r_quo {t u : TypeId} {x y : Operand} {k : IntKind} {a b c : Int} (ho : o.op = .binOp .quo t x y u) (hx : ev l x = some (.int k a)) (hy : ev l y = some (.int k b)) (hb : b ≠ 0) (hc : k.wrap (a.tdiv b) = c) : Run P o l w (.int k c) w :=
  fun ρ hρ => by simp [execOp, ho, hρ x _ hx, hρ y _ hy, guardInt, binOp, Op.intDiv, hb, hc]
theorem r_rem {t u : TypeId} {x y : Operand} {k : IntKind} {a b c : Int} (ho : o.op = .binOp .rem t x y u) (hx : ev l x = some (.int k a)) (hy : ev l y = some (.int k b)) (hb : b ≠ 0) (hc : a.tmod b = c) : Run P o l w (.int k c) w :=
  fun ρ hρ => by simp [execOp, ho, hρ x _ hx, hρ y _ hy, guardInt, binOp, Op.intDiv, hb, hc]
theorem r_bits {op : BinOp} {t u : TypeId} {x y : Operand} {k : IntKind} {a b c : Int} (hop : op = .and ∨ op = .or ∨ op = .xor ∨ op = .andNot) (ho : o.op = .binOp op t x y u) (hx : ev l x = some (.int k a)) (hy : ev l y = some (.int k b))
    (hc : (Op.intBits op k a b).run P w = .ok (.int k c) w) : Run P o l w (.int k c) w :=
  fun ρ hρ => by rcases hop with rfl | rfl | rfl | rfl <;> simp [execOp, ho, hρ x _ hx, hρ y _ hy, guardInt, binOp, hc]
theorem r_shift {op : BinOp} {t u : TypeId} {x y : Operand} {k k' : IntKind} {a b c : Int} (hop : op = .shl ∨ op = .shr) (ho : o.op = .binOp op t x y u) (hx : ev l x = some (.int k a)) (hy : ev l y = some (.int k' b))
    (hc : (Op.shift op k a k' b).run P w = .ok (.int k c) w) : Run P o l w (.int k c) w :=
  fun ρ hρ => by rcases hop with rfl | rfl <;> simp [execOp, ho, hρ x _ hx, hρ y _ hy, guardInt, binOp, hc]
theorem r_lss {t u : TypeId} {x y : Operand} {k : IntKind} {a b : Int} (ho : o.op = .binOp .lss t x y u) (hx : ev l x = some (.int k a)) (hy : ev l y = some (.int k b)) : Run P o l w (.bool (decide (a < b))) w :=
  fun ρ hρ => by simp [execOp, ho, hρ x _ hx, hρ y _ hy, guardInt, binOp, Op.intCmp]
theorem r_leq {t u : TypeId} {x y : Operand} {k : IntKind} {a b : Int} (ho : o.op = .binOp .leq t x y u) (hx : ev l x = some (.int k a)) (hy : ev l y = some (.int k b)) : Run P o l w (.bool (decide (a ≤ b))) w :=
  fun ρ hρ => by simp [execOp, ho, hρ x _ hx, hρ y _ hy, guardInt, binOp, Op.intCmp]
theorem r_gtr {t u : TypeId} {x y : Operand} {k : IntKind} {a b : Int} (ho : o.op = .binOp .gtr t x y u) (hx : ev l x = some (.int k a)) (hy : ev l y = some (.int k b)) : Run P o l w (.bool (decide (b < a))) w :=
  fun ρ hρ => by simp [execOp, ho, hρ x _ hx, hρ y _ hy, guardInt, binOp, Op.intCmp]
theorem r_geq {t u : TypeId} {x y : Operand} {k : IntKind} {a b : Int} (ho : o.op = .binOp .geq t x y u) (hx : ev l x = some (.int k a)) (hy : ev l y = some (.int k b)) : Run P o l w (.bool (decide (b ≤ a))) w :=
  fun ρ hρ => by simp [execOp, ho, hρ x _ hx, hρ y _ hy, guardInt, binOp, Op.intCmp]
theorem r_eqlInt {t u : TypeId} {x y : Operand} {k : IntKind} {a b : Int} (ho : o.op = .binOp .eql t x y u) (hx : ev l x = some (.int k a)) (hy : ev l y = some (.int k b)) : Run P o l w (.bool (decide (a = b))) w :=
  fun ρ hρ => by simp [execOp, ho, hρ x _ hx, hρ y _ hy, guardInt, binOp, Op.intCmp]; rfl
theorem r_neqInt {t u : TypeId} {x y : Operand} {k : IntKind} {a b : Int} (ho : o.op = .binOp .neq t x y u) (hx : ev l x = some (.int k a)) (hy : ev l y = some (.int k b)) : Run P o l w (.bool (!decide (a = b))) w :=
  fun ρ hρ => by simp [execOp, ho, hρ x _ hx, hρ y _ hy, guardInt, binOp, Op.intCmp]; rfl
theorem list_beq_eq (s t : ByteArray) : (s.toList == t.toList) = decide (s = t) := by
  rw [Bool.eq_iff_iff, beq_iff_eq, decide_eq_true_iff]
  constructor
  · intro h
    have : s.data.toList = t.data.toList := by rw [← ByteArray.toList_eq, ← ByteArray.toList_eq, h]
    cases s; cases t; simp at this; simp [this]
  · rintro rfl; rfl
theorem r_eqlStr {t u : TypeId} {x y : Operand} {a b : ByteArray} (ho : o.op = .binOp .eql t x y u) (hx : ev l x = some (.string a)) (hy : ev l y = some (.string b)) : Run P o l w (.bool (decide (a = b))) w :=
  fun ρ hρ => by
    simp only [execOp, ho, hρ x _ hx, hρ y _ hy]
    simp [eqGuard, binOp, Op.stringOp, ← list_beq_eq]
theorem r_neqStr {t u : TypeId} {x y : Operand} {a b : ByteArray} (ho : o.op = .binOp .neq t x y u) (hx : ev l x = some (.string a)) (hy : ev l y = some (.string b)) : Run P o l w (.bool (!decide (a = b))) w :=
  fun ρ hρ => by
    simp only [execOp, ho, hρ x _ hx, hρ y _ hy]
    simp [eqGuard, binOp, Op.stringOp, ← list_beq_eq]
theorem r_addStr {t u : TypeId} {x y : Operand} {a b : ByteArray} (ho : o.op = .binOp .add t x y u) (hx : ev l x = some (.string a)) (hy : ev l y = some (.string b)) (hs : a.size + b.size ≤ 9223372036854775807) : Run P o l w (.string (a ++ b)) w :=
  fun ρ hρ => by
    have h1 : ¬ ((a.size : Int) + (b.size : Int) > IntKind.i64.max) := by
      have : IntKind.i64.max = 9223372036854775807 := by decide
      rw [this]; omega
    simp only [execOp, ho, hρ x _ hx, hρ y _ hy]
    simp [eqGuard, binOp, Op.stringOp]
    simpa using h1
theorem equal_bool {t : TypeId} (hu : P.underlying t = some .bool) (a b : Bool) (w : World) : (Op.equal t (.bool a) (.bool b)).run P w = .ok (a == b) w := by
  show (Op.equalIn (9999 + 1) t (.bool a) (.bool b)).run P w = _
  generalize 9999 = d
  simp [Op.equalIn, run_underlying hu]
theorem r_eqlBool {t u : TypeId} {x y : Operand} {a b : Bool} (ho : o.op = .binOp .eql t x y u) (hx : ev l x = some (.bool a)) (hy : ev l y = some (.bool b)) (hu : P.underlying t = some .bool) : Run P o l w (.bool (a == b)) w :=
  fun ρ hρ => by
    simp only [execOp, ho, hρ x _ hx, hρ y _ hy]
    simp [eqGuard, binOp, equal_bool hu]
theorem r_neqBool {t u : TypeId} {x y : Operand} {a b : Bool} (ho : o.op = .binOp .neq t x y u) (hx : ev l x = some (.bool a)) (hy : ev l y = some (.bool b)) (hu : P.underlying t = some .bool) : Run P o l w (.bool (!(a == b))) w :=
  fun ρ hρ => by
    simp only [execOp, ho, hρ x _ hx, hρ y _ hy]
    simp [eqGuard, binOp, equal_bool hu]
theorem r_not {t : TypeId} {x : Operand} {b : Bool} (ho : o.op = .unOp .not t x) (hx : ev l x = some (.bool b)) : Run P o l w (.bool (!b)) w := fun ρ hρ => by
  simp [execOp, ho, hρ x _ hx, Op.unary]
theorem r_neg {t : TypeId} {x : Operand} {k : IntKind} {a c : Int} (ho : o.op = .unOp .neg t x) (hx : ev l x = some (.int k a)) (hc : k.wrap (0 - a) = c) : Run P o l w (.int k c) w := fun ρ hρ => by
  simp only [execOp, ho, hρ x _ hx, Op.unary, Op.intArith, hc]; rfl
theorem r_convInt {s d : TypeId} {x : Operand} {u : TypeDesc} {k k' : IntKind} {a c : Int} (ho : o.op = .convert s d x) (hx : ev l x = some (.int k a)) (hs : P.underlying s = some u) (hd : P.underlying d = some (.int k')) (hc : k'.wrap a = c) :
    Run P o l w (.int k' c) w := fun ρ hρ => by
  simp [execOp, ho, hρ x _ hx, convert, run_underlying hs, run_underlying hd, Conv.intToInt, hc]
theorem r_convStr {s d : TypeId} {x : Operand} {a : ByteArray} (ho : o.op = .convert s d x) (hx : ev l x = some (.string a)) (hs : P.underlying s = some .string) (hd : P.underlying d = some .string) :
    Run P o l w (.string a) w := fun ρ hρ => by
  simp [execOp, ho, hρ x _ hx, convert, run_underlying hs, run_underlying hd]
theorem r_makeIface {t : TypeId} {x : Operand} {v : Value} (ho : o.op = .makeInterface t x) (hx : ev l x = some v) (hc : P.concrete t = true) : Run P o l w (.iface t v) w := fun ρ hρ => by
  simp [execOp, ho, hρ x _ hx, run_makeInterface w t v hc]
/-- An interface value held against nil. -/
def ifaceIs : Value → Option Bool
  | .nilIface => some false
  | .iface _ _ => some true
  | _ => none
theorem equal_nilnil {t : TypeId} {ms : Array (String × TypeId)} (hu : P.underlying t = some (.interface ms)) (w : World) : (Op.equal t .nilIface .nilIface).run P w = .ok true w := by
  show (Op.equalIn (9999 + 1) t .nilIface .nilIface).run P w = _
  generalize 9999 = d
  simp [Op.equalIn, run_underlying hu]
theorem equal_ifacenil {t u : TypeId} {v : Value} {ms : Array (String × TypeId)} (hu : P.underlying t = some (.interface ms)) (w : World) : (Op.equal t (.iface u v) .nilIface).run P w = .ok false w := by
  show (Op.equalIn (9999 + 1) t (.iface u v) .nilIface).run P w = _
  generalize 9999 = d
  simp [Op.equalIn, run_underlying hu]
theorem r_neqNil {t u : TypeId} {x : Operand} {v : Value} {c : Bool} {ms : Array (String × TypeId)} (ho : o.op = .binOp .neq t x (.const .nilIface) u) (hx : ev l x = some v) (hu : P.underlying t = some (.interface ms)) (hv : ifaceIs v = some c) : Run P o l w (.bool c) w :=
  fun ρ hρ => by
    have hn : ρ (.const .nilIface) = .nilIface := hρ _ _ rfl
    simp only [execOp, ho, hρ x _ hx, hn]
    cases v <;> simp [ifaceIs] at hv
    · subst hv
      simp [eqGuard, binOp, equal_ifacenil hu]
    · subst hv
      simp [eqGuard, binOp, equal_nilnil hu]
/-! ### Builtins -/
theorem r_lenSlice {t e : TypeId} {x : Operand} {a : Option Addr} {n c : Nat} (ho : o.op = .call { callee := .builtin .len, args := #[x], argTypes := #[t] }) (hx : ev l x = some (.slice a n c)) (hu : P.underlying t = some (.slice e)) :
    Run P o l w (.int .i64 (n : Int)) w := fun ρ hρ => by
  simp [execOp, ho, resolve, invoke, builtin, Builtin.len_, run_underlying hu, hρ x _ hx, goInt]
theorem r_lenStr {t : TypeId} {x : Operand} {s : ByteArray} (ho : o.op = .call { callee := .builtin .len, args := #[x], argTypes := #[t] }) (hx : ev l x = some (.string s)) (hu : P.underlying t = some .string) :
    Run P o l w (.int .i64 (s.size : Int)) w := fun ρ hρ => by
  simp [execOp, ho, resolve, invoke, builtin, Builtin.len_, run_underlying hu, hρ x _ hx, goInt]
theorem r_lenArr {t e : TypeId} {x : Operand} {v : Value} {n : Nat} (ho : o.op = .call { callee := .builtin .len, args := #[x], argTypes := #[t] }) (hx : ev l x = some v) (hu : P.underlying t = some (.array n e)) :
    Run P o l w (.int .i64 (n : Int)) w := fun ρ hρ => by
  simp [execOp, ho, resolve, invoke, builtin, Builtin.len_, run_underlying hu, hρ x _ hx, goInt]
/-! ### Cuts -/
theorem r_sliceStr {t : TypeId} {x : Operand} {s : ByteArray} {lo hi : Option Operand} {a b : Nat} (ho : o.op = .slice t x lo hi none) (hx : ev l x = some (.string s)) (hu : P.underlying t = some .string)
    (hlo : (lo = none ∧ a = 0) ∨ (∃ y k m, lo = some y ∧ ev l y = some (.int k m) ∧ m = (a : Int))) (hhi : (hi = none ∧ b = s.size) ∨ (∃ y k m, hi = some y ∧ ev l y = some (.int k m) ∧ m = (b : Int))) (hab : a ≤ b) (hb : b ≤ s.size) :
    Run P o l w (.string (s.extract a b)) w := fun ρ hρ => by
  have h1 : (0 : Int) ≤ b := by omega
  have h2 : (b : Int) ≤ (s.size : Int) := by omega
  have h3 : (a : Int) ≤ (b : Int) := by omega
  rcases hlo with ⟨rfl, rfl⟩ | ⟨y, k, m, rfl, hy, rfl⟩ <;> rcases hhi with ⟨rfl, rfl⟩ | ⟨y', k', m', rfl, hy', rfl⟩ <;>
    simp [execOp, ho, hρ x _ hx, Instr.sliceAt, run_underlying hu, Instr.slice, Instr.sliceBounds, Instr.sliceBound, asIntOf, *] <;>
    (first | simp [hρ y _ hy, asIntOf, *] | skip) <;> (first | simp [hρ y' _ hy', asIntOf, *] | skip)
end
end Go.FL
