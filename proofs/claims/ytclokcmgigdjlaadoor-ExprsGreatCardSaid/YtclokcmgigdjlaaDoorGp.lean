/- Printed by this session's own program out of the translation, and by hand. -/
import Derived.Test.YtclokcmgigdjlaaDoorV
import Derived.Test.YtclokcmgigdjlaaDoorLx
import Derived.Test.YtclokcmgigdjlaaDoorFlO
set_option linter.unusedVariables false
set_option linter.unusedSimpArgs false
set_option maxRecDepth 4000
namespace Go.Proofs.YtclokcmgigdjlaaDoor
open Go.FL Go.RowKit Go.Proofs

/-! ### Too deep, too great: plain -/
def leafE : Ex := (nameE ⟨#[97]⟩)
def notN : Nat → Ex
  | 0 => leafE
  | m + 1 => .mk 5 0 ⟨#[]⟩ [notN m]
def notT : Nat → ByteArray
  | 0 => ⟨#[]⟩
  | m + 1 => notT m ++ ⟨#[110, 111, 116, 32]⟩
def andE (x y : Ex) : Ex := .mk 15 0 ⟨#[]⟩ [x, y]
def pairUp : List Ex → List Ex
  | x :: y :: r => andE x y :: pairUp r
  | l => l
def iterP : Nat → List Ex → List Ex
  | 0, l => l
  | n + 1, l => if l.length ≤ 1 then l else iterP n (pairUp l)
def finL (k : Nat) : List Ex := iterP 300 (List.replicate k leafE)
theorem pairUp_len : ∀ l : List Ex, (pairUp l).length = (l.length + 1) / 2
  | [] => by simp [pairUp]
  | [x] => by simp [pairUp]
  | x :: y :: r => by rw [pairUp]; simp only [List.length_cons, pairUp_len r]; omega
theorem pairUp_take : ∀ (j : Nat) (l : List Ex) (x y : Ex), l[2 * j]? = some x → l[2 * j + 1]? = some y → pairUp (l.take (2 * (j + 1))) = pairUp (l.take (2 * j)) ++ [andE x y]
  | 0, a :: b :: r, x, y, hx, hy => by simp at hx hy; subst hx; subst hy; rfl
  | 0, [a], x, y, hx, hy => by simp at hy
  | _, [], x, y, hx, hy => by simp at hx
  | j + 1, [a], x, y, hx, hy => by rw [List.getElem?_eq_none (by simp; omega)] at hx; cases hx
  | j + 1, a :: b :: r, x, y, hx, hy => by
    have e1 : 2 * (j + 1 + 1) = 2 * (j + 1) + 2 := by omega
    have e2 : 2 * (j + 1) = 2 * j + 2 := by omega
    rw [e2] at hx hy
    rw [e1, List.take_succ_cons, List.take_succ_cons, e2, List.take_succ_cons, List.take_succ_cons, pairUp, pairUp, ← e2, pairUp_take j r x y (by simpa using hx) (by simpa using hy)]; rfl
theorem pairUp_odd : ∀ (j : Nat) (l : List Ex) (x : Ex), l.length = 2 * j + 1 → l[2 * j]? = some x → pairUp l = pairUp (l.take (2 * j)) ++ [x]
  | 0, [a], x, _, hx => by simp at hx; subst hx; rfl
  | 0, [], x, h, _ => by simp at h
  | 0, a :: b :: r, x, h, _ => by simp at h
  | j + 1, [], x, h, _ => by simp at h
  | j + 1, [a], x, h, _ => by simp at h
  | j + 1, a :: b :: r, x, h, hx => by
    have e2 : 2 * (j + 1) = 2 * j + 2 := by omega
    rw [e2] at hx
    rw [e2, List.take_succ_cons, List.take_succ_cons, pairUp, pairUp, pairUp_odd j r x (by simp at h; omega) (by simpa using hx)]; rfl
theorem iterP_step {n : Nat} {l : List Ex} (h : 1 < l.length) : iterP (n + 1) l = iterP n (pairUp l) := by rw [iterP, if_neg (by omega)]
theorem iterP_done {n : Nat} {l : List Ex} (h : l.length ≤ 1) : iterP n l = l := by
  cases n with
  | zero => rfl
  | succ n => rw [iterP, if_pos h]
def grB (k : Nat) : Bool := (checkB (notN (k - 1)) == decide (k ≤ 32)) && (k == 0 || checkB ((finL k).getD 0 exNone) == decide (2 * k - 1 ≤ 200))
theorem gr_0 : (List.range 25).all (fun r => grB (25 * 0 + r)) = true := by kernel_rfl
theorem gr_1 : (List.range 25).all (fun r => grB (25 * 1 + r)) = true := by kernel_rfl
theorem gr_2 : (List.range 25).all (fun r => grB (25 * 2 + r)) = true := by kernel_rfl
theorem gr_3 : (List.range 25).all (fun r => grB (25 * 3 + r)) = true := by kernel_rfl
theorem gr_4 : (List.range 25).all (fun r => grB (25 * 4 + r)) = true := by kernel_rfl
theorem gr_5 : (List.range 25).all (fun r => grB (25 * 5 + r)) = true := by kernel_rfl
theorem gr_6 : (List.range 25).all (fun r => grB (25 * 6 + r)) = true := by kernel_rfl
theorem gr_7 : (List.range 25).all (fun r => grB (25 * 7 + r)) = true := by kernel_rfl
theorem gr_8 : (List.range 25).all (fun r => grB (25 * 8 + r)) = true := by kernel_rfl
theorem gr_9 : (List.range 25).all (fun r => grB (25 * 9 + r)) = true := by kernel_rfl
theorem gr_10 : (List.range 25).all (fun r => grB (25 * 10 + r)) = true := by kernel_rfl
theorem gr_11 : (List.range 25).all (fun r => grB (25 * 11 + r)) = true := by kernel_rfl
theorem gr_at {k : Nat} (h : k < 300) : grB k = true := by
  have hk : k = 25 * (k / 25) + k % 25 := by omega
  have h2 : k % 25 < 25 := Nat.mod_lt _ (by decide)
  have hq : k / 25 < 12 := by omega
  have key : (List.range 25).all (fun r => grB (25 * (k / 25) + r)) = true := match k / 25, hq with
    | 0, _ => gr_0 | 1, _ => gr_1 | 2, _ => gr_2 | 3, _ => gr_3 | 4, _ => gr_4 | 5, _ => gr_5 | 6, _ => gr_6 | 7, _ => gr_7 | 8, _ => gr_8 | 9, _ => gr_9 | 10, _ => gr_10 | 11, _ => gr_11
  have := List.all_eq_true.1 key (k % 25) (by simpa using h2)
  rw [← hk] at this; exact this
theorem notT_size : ∀ m, (notT m).size = 4 * m
  | 0 => rfl
  | m + 1 => by rw [notT, ByteArray.size_append, notT_size m]; show _ + 4 = _; omega
def nots : Nat → List UInt8 → List UInt8
  | 0, r => r
  | m + 1, r => 110 :: 111 :: 116 :: 32 :: nots m r
theorem nots_comm : ∀ (m : Nat) (r : List UInt8), nots m (110 :: 111 :: 116 :: 32 :: r) = 110 :: 111 :: 116 :: 32 :: nots m r
  | 0, r => rfl
  | m + 1, r => by rw [nots, nots, nots_comm m r]
theorem notT_list : ∀ (m : Nat) (r : List UInt8), (notT m).data.toList ++ r = nots m r
  | 0, r => rfl
  | m + 1, r => by
    rw [notT, ByteArray.data_append, Array.toList_append, List.append_assoc, notT_list m]
    exact nots_comm m r
def toksN : Nat → Nat → List Tok
  | 0, a => [⟨1, ⟨#[97]⟩, a⟩]
  | m + 1, a => ⟨1, ⟨#[110, 111, 116]⟩, a⟩ :: toksN m (a + 4)
theorem toksN_len : ∀ m a, (toksN m a).length = m + 1
  | 0, a => rfl
  | m + 1, a => by rw [toksN, List.length_cons, toksN_len m]
theorem nots_lex : ∀ (m a : Nat), Lexes (nots m [97]) a (toksN m a)
  | 0, a => Lexes.tok (l := [97]) (q := 1) (n := 1) (silL_zero (by decide) (by decide)) (by decide) (Lexes.nil _)
  | m + 1, a => by
    have hw : wLenL (110 :: 111 :: 116 :: 32 :: nots m [97]) = 3 := pw_run [110, 111, 116] (32 :: nots m [97]) 0 (by
      intro j b hj
      match j, hj with
      | 0, h | 1, h | 2, h => simp at h; subst h; exact ⟨by decide, by decide⟩
      | j + 3, h => simp at h) (by intro b hb _; simp at hb; subst hb; decide)
    refine Lexes.tok (q := 1) (n := 3) (silL_zero (by decide) (fun h => absurd h.1 (by decide))) (show tokL (110 :: 111 :: 116 :: 32 :: nots m [97]) = _ from by unfold tokL; rw [hw]; rfl) ?_
    show Lexes (32 :: nots m [97]) (a + 3) _
    cases m with
    | zero => exact Lexes.blank (b := 32) (c := 97) (r := []) (a := a + 3) (by decide) (by decide) (by decide) (nots_lex 0 (a + 4))
    | succ m => exact Lexes.blank (b := 32) (c := 110) (a := a + 3) (by decide) (by decide) (fun h => absurd h.1 (by decide)) (nots_lex (m + 1) (a + 4))
theorem great_read (m : Nat) (hm : m ≤ 300) : readR (notT m ++ ⟨#[97]⟩) = (toksN m 0, 0, 0) := by
  refine readR_lex ?_ ?_
  · rw [ByteArray.size_append, notT_size]; show _ + 1 ≤ _; omega
  · rw [ByteArray.data_append, Array.toList_append]
    have h := notT_list m [97]
    exact h ▸ nots_lex m 0
theorem toksN_get : ∀ (m a i : Nat), i < m → ∃ p, (toksN m a)[i]? = some ⟨1, ⟨#[110, 111, 116]⟩, p⟩
  | 0, a, i, h => by omega
  | m + 1, a, 0, _ => ⟨a, rfl⟩
  | m + 1, a, i + 1, h => by rw [toksN, List.getElem?_cons_succ]; exact toksN_get m (a + 4) i (by omega)
theorem toksN_last : ∀ (m a : Nat), ∃ p, (toksN m a)[m]? = some ⟨1, ⟨#[97]⟩, p⟩
  | 0, a => ⟨a, rfl⟩
  | m + 1, a => by rw [toksN, List.getElem?_cons_succ]; exact toksN_last m (a + 4)
theorem takes_at {ts : List Tok} {i : Nat} {t : Tok} (h : ts[i]? = some t) (k : Int) (s : ByteArray) : takesB ts i k s = (decide (t.k = k) && decide (t.t = s)) := by unfold takesB; rw [h]
theorem takes_end {ts : List Tok} {i : Nat} (h : ts.length ≤ i) (k : Int) (s : ByteArray) : takesB ts i k s = false := by unfold takesB; rw [List.getElem?_eq_none h]
theorem great_prefix (m : Nat) : ∀ (d K j : Nat), j + d = m → d < K → prefixP (toksN m 0) K j = .ok (notN d) (m + 1)
  | 0, K, j, hj, hK => by
    obtain ⟨K, rfl⟩ : ∃ k, K = k + 1 := ⟨K - 1, by omega⟩
    obtain rfl : j = m := by omega
    obtain ⟨p, hp⟩ := toksN_last j 0
    have hf : firstP (toksN j 0) j = none := by
      unfold firstP prefixesF
      simp only [List.find?_cons, takes_at hp]
      rfl
    rw [prefixP_4 hf (by rw [takes_at hp]; rfl) hp]
    have hw : ofWordR ⟨#[97]⟩ = (leafE, 0) := by kernel_rfl
    unfold atomR
    rw [if_pos rfl]
    simp only [hw]
    rfl
  | d + 1, K, j, hj, hK => by
    obtain ⟨K, rfl⟩ : ∃ k, K = k + 1 := ⟨K - 1, by omega⟩
    obtain ⟨p, hp⟩ := toksN_get m 0 j (by omega)
    have hf : firstP (toksN m 0) j = some ⟨5, 6, 1, ⟨#[110, 111, 116]⟩⟩ := by
      unfold firstP prefixesF
      simp only [List.find?_cons, takes_at hp]
      rfl
    rw [prefixP_1 hf, great_prefix m d K (j + 1) (by omega) (by omega)]
    rfl
theorem firstF_end {ts : List Tok} {a : Nat} (h : ts.length ≤ a) (n : Int) : firstF ts a n = none := by
  unfold firstF
  rw [List.find?_eq_none]
  intro f _
  simp [takes_end h]
theorem rankP_up {ts : List Tok} {K a e : Nat} {n : Int} {x : Ex} (h6 : ¬ 6 ≤ n) (h0 : ¬ (n = 0 ∧ takesB ts a 1 ⟨#[105, 102]⟩ = true)) (h : rankP ts (K + 1) (n + 1) a = .ok x e) (he : ts.length ≤ e) : rankP ts (K + 2) n a = .ok x e := by
  rw [rankP, if_neg h6, if_neg h0, h]
  show loopP ts (K + 1) n x e = _
  rw [loopP, firstF_end he]
theorem great_rank (m : Nat) (hm : m ≤ 300) : rankP (toksN m 0) 400 0 0 = .ok (notN m) (m + 1) := by
  have h6 : rankP (toksN m 0) 394 6 0 = .ok (notN m) (m + 1) := by
    rw [rankP, if_pos (by decide)]; exact great_prefix m m 393 0 (by omega) (by omega)
  have hl : (toksN m 0).length ≤ m + 1 := by rw [toksN_len]; exact Nat.le_refl _
  have hif : takesB (toksN m 0) 0 1 ⟨#[105, 102]⟩ = false := by
    cases m with
    | zero => rfl
    | succ m => rfl
  refine rankP_up (K := 398) (by decide) (by rw [hif]; simp) ?_ hl
  refine rankP_up (K := 397) (by decide) (fun h => absurd h.1 (by decide)) ?_ hl
  refine rankP_up (K := 396) (by decide) (fun h => absurd h.1 (by decide)) ?_ hl
  refine rankP_up (K := 395) (by decide) (fun h => absurd h.1 (by decide)) ?_ hl
  refine rankP_up (K := 394) (by decide) (fun h => absurd h.1 (by decide)) ?_ hl
  exact rankP_up (K := 393) (by decide) (fun h => absurd h.1 (by decide)) h6 hl
theorem great_parse (m : Nat) (hm : m ≤ 300) : parseR 400 (toksN m 0) = if checkB (notN m) = true then (notN m, m + 1, 0) else (exNone, 0, 3) := by unfold parseR; rw [great_rank m hm]


end Go.Proofs.YtclokcmgigdjlaaDoor
