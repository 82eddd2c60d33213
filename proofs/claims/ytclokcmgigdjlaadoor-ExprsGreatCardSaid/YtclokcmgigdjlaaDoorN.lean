/- Closed facts of the translation. Printed by this session's own program. -/
import Derived.Test.YtclokcmgigdjlaaDoorProg
import Derived.Test.YtclokcmgigdjlaaDoorShelf
import Derived.Shelf.Strings.SlTrimAscii
import Derived.Lib.ItoaLen
import Derived.Test.YtclokcmgigdjlaaDoorFlL
set_option linter.unusedVariables false
namespace Go.Proofs.YtclokcmgigdjlaaDoor
open Go.FL Go.RowKit Go.Proofs
theorem mixed : Tryd.prog.follows .mixedOrders = true := by kernel_rfl
/-- How many package-level variables there are. -/
def NG : Nat := 8
theorem var_kp {X : Nat → Prop} {w w' : World} {n : String} {g : Nat} {cs : Array Value} (hK : Kp X w w') (hg : Tryd.prog.globalNamed n = some g) (hx : ¬ X g) (hv : w.var? Tryd.prog n = some cs) : w'.var? Tryd.prog n = some cs := by
  unfold World.var? at hv ⊢
  simp only [hg, Option.bind_some] at hv ⊢
  cases ho : w.heap[g]? with
  | none => simp [ho] at hv
  | some o => rw [hK.heap ho hx]; rw [ho] at hv; exact hv
theorem g_tab : Tryd.prog.globalNamed "internal/strconv.uint64pow10" = some 1 := by kernel_rfl
theorem g_syn : Tryd.prog.globalNamed "strconv.ErrSyntax" = some 6 := by kernel_rfl
theorem g_rng : Tryd.prog.globalNamed "strconv.ErrRange" = some 7 := by kernel_rfl
/-- What is known of the package-level variables. -/
structure Gl (w : World) : Prop where
  size : NG ≤ w.heap.size
  tab : Lib.TabIs Tryd.prog w "internal/strconv.uint64pow10" .u64 Lib.pow10Tab
  syn : ∃ t p, w.var? Tryd.prog "strconv.ErrSyntax" = some #[.iface t p]
  rng : ∃ t p, w.var? Tryd.prog "strconv.ErrRange" = some #[.iface t p]
theorem Gl.kp {X : Nat → Prop} {w w' : World} (h : Gl w) (hK : Kp X w w') (hx : ∀ b, b < NG → ¬ X b) : Gl w' :=
  ⟨Nat.le_trans h.size hK.size, var_kp hK g_tab (hx _ (by decide)) h.tab, let ⟨t, p, hv⟩ := h.syn; ⟨t, p, var_kp hK g_syn (hx _ (by decide)) hv⟩, let ⟨t, p, hv⟩ := h.rng; ⟨t, p, var_kp hK g_rng (hx _ (by decide)) hv⟩⟩
theorem Gl.ext {w w' : World} (h : Gl w) (hE : Ext w w') : Gl w' := h.kp hE (fun _ _ => id)
end Go.Proofs.YtclokcmgigdjlaaDoor
