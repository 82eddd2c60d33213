/- Printed by this session's own program out of the translation, and by hand. -/
import Derived.Test.YtclokcmgigdjlaaDoorV
set_option linter.unusedVariables false
set_option linter.unusedSimpArgs false
set_option maxRecDepth 4000
namespace Go.Proofs.YtclokcmgigdjlaaDoor
open Go.FL Go.RowKit Go.Proofs

/-! ### Two operators without brackets: by evaluation -/
def opsL : List Int := [18, 16, 15, 11, 12, 13, 14, 6, 7, 8, 9, 10]
def signsL : List ByteArray := [⟨#[45, 62]⟩, ⟨#[111, 114]⟩, ⟨#[97, 110, 100]⟩, ⟨#[61, 61]⟩, ⟨#[33, 61]⟩, ⟨#[60]⟩, ⟨#[60, 61]⟩, ⟨#[43]⟩, ⟨#[45]⟩, ⟨#[42]⟩, ⟨#[47]⟩, ⟨#[37]⟩]
def ranksL : List Int := [0, 1, 2, 3, 3, 3, 3, 4, 4, 5, 5, 5]
def opsK (i : Nat) : Int := opsL.getD i 0
def signK (i : Nat) : ByteArray := signsL.getD i ⟨#[]⟩
def rankK (i : Nat) : Int := ranksL.getD i 0
def leftE (i k : Nat) : Ex := .mk (opsK k) 0 ⟨#[]⟩ [.mk (opsK i) 0 ⟨#[]⟩ [(nameE ⟨#[97]⟩), (nameE ⟨#[98]⟩)], (nameE ⟨#[99]⟩)]
def rightE (i k : Nat) : Ex := .mk (opsK i) 0 ⟨#[]⟩ [(nameE ⟨#[97]⟩), .mk (opsK k) 0 ⟨#[]⟩ [(nameE ⟨#[98]⟩), (nameE ⟨#[99]⟩)]]
def plainT (i k : Nat) : ByteArray := ⟨#[97, 32]⟩ ++ signK i ++ ⟨#[32, 98, 32]⟩ ++ signK k ++ ⟨#[32, 99]⟩
def firstT (i k : Nat) : ByteArray := ⟨#[40, 97, 32]⟩ ++ signK i ++ ⟨#[32, 98, 41, 32]⟩ ++ signK k ++ ⟨#[32, 99]⟩
def secondT (i k : Nat) : ByteArray := ⟨#[97, 32]⟩ ++ signK i ++ ⟨#[32, 40, 98, 32]⟩ ++ signK k ++ ⟨#[32, 99, 41]⟩
def chk1 (i k : Nat) : Bool := (okK 200 (plainT i k) && !(readE 200 (plainT i k)).2) && (yesB 200 (firstT i k) (leftE i k) && yesB 200 (secondT i k) (rightE i k))
def chk2 (i k : Nat) : Bool := yesB 200 (plainT i k) (leftE i k) && yesB 200 (secondT i k) (rightE i k)
def chk3 (i k : Nat) : Bool := yesB 200 (plainT i k) (rightE i k) && yesB 200 (firstT i k) (leftE i k)
def chkK (i k : Nat) : Bool := if rankK i = 3 ∧ rankK k = 3 then chk1 i k else if rankK k < rankK i ∨ (rankK i = rankK k ∧ 0 < rankK i) then chk2 i k else chk3 i k
theorem chk_0 : (List.range 12).all (fun k => chkK 0 k) = true := by kernel_rfl
theorem chk_1 : (List.range 12).all (fun k => chkK 1 k) = true := by kernel_rfl
theorem chk_2 : (List.range 12).all (fun k => chkK 2 k) = true := by kernel_rfl
theorem chk_3 : (List.range 12).all (fun k => chkK 3 k) = true := by kernel_rfl
theorem chk_4 : (List.range 12).all (fun k => chkK 4 k) = true := by kernel_rfl
theorem chk_5 : (List.range 12).all (fun k => chkK 5 k) = true := by kernel_rfl
theorem chk_6 : (List.range 12).all (fun k => chkK 6 k) = true := by kernel_rfl
theorem chk_7 : (List.range 12).all (fun k => chkK 7 k) = true := by kernel_rfl
theorem chk_8 : (List.range 12).all (fun k => chkK 8 k) = true := by kernel_rfl
theorem chk_9 : (List.range 12).all (fun k => chkK 9 k) = true := by kernel_rfl
theorem chk_10 : (List.range 12).all (fun k => chkK 10 k) = true := by kernel_rfl
theorem chk_11 : (List.range 12).all (fun k => chkK 11 k) = true := by kernel_rfl
theorem chk_at {i k : Nat} (hi : i < 12) (hk : k < 12) : chkK i k = true := by
  have h : (List.range 12).all (fun k => chkK i k) = true := match i, hi with
    | 0, _ => chk_0 | 1, _ => chk_1 | 2, _ => chk_2 | 3, _ => chk_3 | 4, _ => chk_4 | 5, _ => chk_5 | 6, _ => chk_6 | 7, _ => chk_7 | 8, _ => chk_8 | 9, _ => chk_9 | 10, _ => chk_10 | 11, _ => chk_11
  exact List.all_eq_true.1 h k (by simpa using hk)
theorem opsK_at : ∀ i, i < 12 → nth (opsL.map fun n => .int .u8 n) (0 + i * 1) = some (.int .u8 (opsK i))
  | 0, _ | 1, _ | 2, _ | 3, _ | 4, _ | 5, _ | 6, _ | 7, _ | 8, _ | 9, _ | 10, _ | 11, _ => rfl
  | n + 12, h => by omega
theorem ranksK_at : ∀ i, i < 12 → nth (ranksL.map fun n => .int .i64 n) (0 + i * 1) = some (.int .i64 (rankK i))
  | 0, _ | 1, _ | 2, _ | 3, _ | 4, _ | 5, _ | 6, _ | 7, _ | 8, _ | 9, _ | 10, _ | 11, _ => rfl
  | n + 12, h => by omega
theorem signsK_at : ∀ i, i < 12 → nth (signsL.map .string) (0 + i * 1) = some (.string (signK i))
  | 0, _ | 1, _ | 2, _ | 3, _ | 4, _ | 5, _ | 6, _ | 7, _ | 8, _ | 9, _ | 10, _ | 11, _ => rfl
  | n + 12, h => by omega
theorem signK_size : ∀ i, (signK i).size ≤ 3
  | 0 | 1 | 2 | 3 | 4 | 5 | 6 | 7 | 8 | 9 | 10 | 11 => by decide
  | n + 12 => by simp [signK, signsL]; decide
theorem szP1 : (⟨#[97, 32]⟩ : ByteArray).size = 2 := rfl
theorem szP2 : (⟨#[32, 98, 32]⟩ : ByteArray).size = 3 := rfl
theorem szP3 : (⟨#[32, 99]⟩ : ByteArray).size = 2 := rfl
theorem szF1 : (⟨#[40, 97, 32]⟩ : ByteArray).size = 3 := rfl
theorem szF2 : (⟨#[32, 98, 41, 32]⟩ : ByteArray).size = 4 := rfl
theorem szS2 : (⟨#[32, 40, 98, 32]⟩ : ByteArray).size = 4 := rfl
theorem szS3 : (⟨#[32, 99, 41]⟩ : ByteArray).size = 3 := rfl
theorem plainT_size (i k : Nat) : (plainT i k).size ≤ 100 := by
  have h1 := signK_size i; have h2 := signK_size k
  simp only [plainT, ByteArray.size_append, szP1, szP2, szP3]; omega
theorem firstT_size (i k : Nat) : (firstT i k).size ≤ 100 := by
  have h1 := signK_size i; have h2 := signK_size k
  simp only [firstT, ByteArray.size_append, szF1, szF2, szP3]; omega
theorem secondT_size (i k : Nat) : (secondT i k).size ≤ 100 := by
  have h1 := signK_size i; have h2 := signK_size k
  simp only [secondT, ByteArray.size_append, szP1, szS2, szS3]; omega
theorem tmod12 (o : Nat) : (o : Int).tmod 12 = ((o % 12 : Nat) : Int) := rfl


end Go.Proofs.YtclokcmgigdjlaaDoor
