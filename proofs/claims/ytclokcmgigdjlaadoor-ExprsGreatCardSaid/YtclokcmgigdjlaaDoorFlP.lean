/- Rows: what is left behind a call that changes nothing; what lists of variables give. No project text. -/
import Derived.Test.YtclokcmgigdjlaaDoorFlF
import Derived.ProofKit
import Derived.OpenShut
import Derived.ChangeBook
import Derived.Below
import Derived.LaidSub
import Derived.Deep.DeepHandedRow
import Derived.Deep.DeepWitnessRowRef
import Derived.Lib.LaidTab
set_option linter.unusedSimpArgs false
set_option linter.unusedVariables false
namespace Go.FL
open Go.RowKit Go.ChangeShapes Go.WideShapes Go.ChangeAt
section
variable {H : Type} {enc : TypeId × Value → H} {P : Program} {W W' : World}
theorem sameAt_ext (hE : Ext W W') {p : MemPlace} (hlt : p.block < W.heap.size) : W.sameAt W' p := by
  cases p with
  | cell b off => exact World.cell?_of_block (hE.block b hlt id)
  | map b => exact hE.block b hlt id
theorem trodAll_ext (hE : Ext W W') (hl : laidOutB P = true) {held : Bool} {sp : Nat → Bool} (hh : held = true) : ∀ {ts : List TypeId} {vs : List Value} {ds : List (DataW H)} {ps : List MemPlace},
    ts.all (fun t => decide (t < P.types.size) && P.readableRec t) = true → DataW.TrodAll enc P W 0 (fun _ => true) held ts vs ds ps → (∀ p ∈ ps, p.block < W.heap.size ∧ sp p.block = true) → DataW.TrodAll enc P W' 0 sp held ts vs ds ps
  | [], [], [], ps, _, h, _ => h
  | t :: ts, v :: vs, d :: ds, ps, hr, h, hs => by
    obtain ⟨p, q, ⟨n, h1⟩, h2, rfl⟩ := h
    simp only [List.all_cons, Bool.and_eq_true, decide_eq_true_eq] at hr
    refine ⟨p, q, ⟨n, ?_⟩, trodAll_ext hE hl hh (by simpa using hr.2) h2 (fun x hx => hs x (List.mem_append_right _ hx)), rfl⟩
    exact DataW.trod_stays (kids_book hl hr.1.2) (fun ht hu => book_sized hr.1.2 ht hu) (fun e => by rw [hh] at e; cases e) ⟨hr.1.1, book_self t⟩ h1
      (fun x hx => sameAt_ext hE (hs x (List.mem_append_left _ hx)).1) (fun x hx => (hs x (List.mem_append_left _ hx)).2)
  | [], _ :: _, _, _, _, h, _ => by simp [DataW.TrodAll] at h
  | [], [], _ :: _, _, _, h, _ => by simp [DataW.TrodAll] at h
  | _ :: _, [], _, _, _, h, _ => by simp [DataW.TrodAll] at h
  | _ :: _, _ :: _, [], _, _, h, _ => by simp [DataW.TrodAll] at h
/-- A law that answers yes and leaves all as it was. -/
theorem post_true {f : Func} {s : ChangeSpec} {args : Array Value} {ds gs : List (DataW H)} {before : List MemPlace} {tb : TypeId} {apart fresh handsOn : Bool}
    (hW : DataW.Whole enc P f.params.toList s.vars apart W args.toList ds gs before) (hE : Ext W W') (hl : laidOutB P = true) (hr : f.params.toList.all (fun t => decide (t < P.types.size) && P.readableRec t) = true)
    (hres : f.resultTypes = #[tb]) (hb : P.underlying tb = some .bool) (hv : s.vars = []) (hs : s.fn H (ds ++ gs) = { results := [.lit (.bool true)], args := ds }) :
    s.post enc P f apart fresh handsOn false W args (.bool true) W' := by
  have hlt := hW.lt
  have hW0 := hW
  obtain ⟨p, q, hA, hV, rfl, _, _⟩ := hW
  rw [hv] at hV
  obtain ⟨rfl, rfl⟩ : gs = [] ∧ q = [] := by
    cases gs with
    | nil => exact ⟨rfl, hV⟩
    | cons g gs => simp [DataW.TrodVars] at hV
  refine ⟨ds, [], _, [], p, [], hW0, ?_, ?_, ?_, hE.below.frame _, fun h => by cases h⟩
  · rw [hs, hres]
    refine ⟨[], [], ⟨1, ?_⟩, rfl, rfl⟩
    simp [Value.cells, DataW.trod, hb]
  · rw [hs]
    exact trodAll_ext hE hl rfl hr hA (fun x hx => ⟨hlt x (by simp [hx]), by simpa using hlt x (by simp [hx])⟩)
  · rw [hs, hv]
    exact rfl
theorem iface_of_laid {n : String} {nm : String} {d : DataW Unit} {g : Nat} {t : TypeId} {ms : Array (String × TypeId)} (hg : P.globalNamed n = some g) (hty : (P.globals[g]?).map (·.type) = some t) (ht : P.underlying t = some (.interface ms))
    (h : laidMet P [(n, .iface nm d)] W) : ∃ u v, W.var? P n = some #[.iface u v] := by
  obtain ⟨ps, ⟨g', t', cs, fuel, p, q, hg', ht', hvar, hd, _, _⟩, _⟩ := h
  obtain rfl := Option.some.inj (hg.symm.trans hg')
  obtain rfl := Option.some.inj (hty.symm.trans ht')
  rw [hvar]
  cases fuel with
  | zero => simp [DataW.trod] at hd
  | succ m =>
    unfold DataW.trod at hd
    rw [ht] at hd
    split at hd
    all_goals first
      | (rename_i hcs; exact ⟨_, _, congrArg some (Array.ext' (by simpa using hcs))⟩)
      | (rename_i hu hcs; exact ⟨_, _, congrArg some (Array.ext' (by simpa using hcs))⟩)
      | (exact ⟨_, _, congrArg some (Array.ext' (by simpa using ‹cs.toList = [.iface _ _]›))⟩)
      | simp_all
theorem globals_le {g : Nat} (h : W.ShapedOpen P) (hg : g < P.globals.size) (hx : (((begin P (fun _ _ => 0) default).world.heap[g]?).bind Obj.row?).isSome = true) : g + 1 ≤ W.heap.size := by
  obtain ⟨⟨z, t⟩, hz⟩ := Option.isSome_iff_exists.1 hx
  obtain ⟨cs, h1, _⟩ := h.1 g z t hg hz
  exact (Array.getElem?_eq_some_iff.1 h1).1
end
end Go.FL
