/- Printed by this session's own program out of the translation, and by hand. -/
import Derived.Test.YtclokcmgigdjlaaDoorT
set_option linter.unusedVariables false
set_option linter.unusedSimpArgs false
set_option maxRecDepth 4000
namespace Go.Proofs.YtclokcmgigdjlaaDoor
open Go.FL Go.RowKit Go.Proofs

/-! ### Tokens of a list of bytes: plain -/
/-- How many bytes a list begins with that are so, the first one being number i. -/
def pw (p : Int → Int → Bool) : Nat → List UInt8 → Nat
  | _, [] => 0
  | i, b :: r => if b.toNat < 128 ∧ p i b.toNat = true then 1 + pw p (i + 1) r else 0
theorem pw_le (p : Int → Int → Bool) : ∀ (l : List UInt8) (i : Nat), pw p i l ≤ l.length
  | [], i => by simp [pw]
  | b :: r, i => by
    have := pw_le p r (i + 1)
    rw [pw]; split <;> simp only [List.length_cons] <;> omega
theorem list_get (s : ByteArray) {i : Nat} (h : i < s.size) : s.data.toList[i]? = some (s[i]'h) := by
  have h' : i < s.data.size := h
  rw [Array.getElem?_toList, Array.getElem?_eq_getElem h']; rfl
theorem runFrom_list {p : Int → Int → Bool} (hp : ∀ i c, 128 ≤ c → p i c = false) (s : ByteArray) : ∀ (k pos : Nat), pos ≤ s.size → s.size - pos < k → runFrom s p k pos = pos + pw p pos (s.data.toList.drop pos)
  | 0, pos, _, h => by omega
  | k + 1, pos, hle, h => by
    unfold runFrom
    by_cases hlt : pos < s.size
    · have hg := list_get s hlt
      have hl : pos < s.data.toList.length := by rw [← size_list]; exact hlt
      rw [if_pos hlt, List.drop_eq_getElem_cons hl, pw]
      have he : s.data.toList[pos] = s[pos]'hlt := by
        have := List.getElem?_eq_getElem hl
        rw [hg] at this; exact (Option.some.inj this).symm
      rw [he]
      by_cases ha : (s[pos]'hlt).toNat < 128
      · rw [decode_ascii s pos hlt ha]
        by_cases hc : p pos (s[pos]'hlt).toNat = true
        · rw [if_pos hc, if_pos ⟨ha, hc⟩, runFrom_list hp s k (pos + 1) (by omega) (by omega)]; omega
        · rw [if_neg hc, if_neg (fun e => hc e.2)]; rfl
      · have := (decode_high s pos hlt (by omega)).1
        rw [if_neg (by rw [hp _ _ (by omega)]; simp), if_neg (fun e => ha e.1)]; rfl
    · rw [if_neg hlt, List.drop_of_length_le (by rw [← size_list]; omega)]
      simp [pw]; omega
theorem letterB_hi {c : Int} (h : 128 ≤ c) : letterB c = false := by simp [letterB]; omega
theorem digitB_hi {c : Int} (h : 128 ≤ c) : digitB c = false := by simp [digitB]; omega
theorem wordB_hi (i c : Int) (h : 128 ≤ c) : wordB i c = false := by
  unfold wordB; rw [letterB_hi h, digitB_hi h]; simp; omega
theorem wordLen_list (s : ByteArray) : wordLen s = pw wordB 0 s.data.toList := by
  unfold wordLen; rw [runFrom_list wordB_hi s _ 0 (by omega) (by omega)]; simp
theorem digLen_list (s : ByteArray) : digLen s = pw (fun _ c => digitB c) 0 s.data.toList := by
  unfold digLen; rw [runFrom_list (fun _ _ h => digitB_hi h) s _ 0 (by omega) (by omega)]; simp
def headB (l : List UInt8) : Nat := match l with
  | [] => 0
  | b :: _ => b.toNat
theorem byteAt_list (s : ByteArray) : byteAt s 0 = headB s.data.toList := by
  by_cases h : 0 < s.size
  · have hg := list_get s h
    rw [← byteAt_lt h]
    cases hl : s.data.toList with
    | nil => rw [hl] at hg; simp at hg
    | cons b r => rw [hl] at hg; simp at hg; simp [headB, hg]
  · have : s.data.toList = [] := List.length_eq_zero_iff.1 (by rw [← size_list]; omega)
    rw [this]; simp [byteAt, h, headB]
def dLenL (l : List UInt8) : Nat := pw (fun _ c => digitB c) 0 l
def wLenL (l : List UInt8) : Nat := pw wordB 0 l
def nLenL (l : List UInt8) : Nat := if 1 < dLenL l ∧ headB l = 48 then 0 else dLenL l
def sLenL (l : List UInt8) : Nat := if signs2.any (Lib.hasPrefix l) then 2 else if 0 ≤ Lib.indexByte signs1 (headB l).toUInt8 then 1 else 0
def silL (l : List UInt8) : Nat := l.length - (behind l).length
def tokL (l : List UInt8) : Option (Nat × Nat) := if 0 < wLenL l then some (1, wLenL l) else if 0 < nLenL l then some (2, nLenL l) else if 0 < sLenL l then some (3, sLenL l) else none
theorem numLen_list (s : ByteArray) : numLen s = nLenL s.data.toList := by unfold numLen nLenL dLenL; rw [digLen_list, byteAt_list]
theorem signLen_list (s : ByteArray) : signLen s = sLenL s.data.toList := by unfold signLen sLenL; rw [byteAt_list]; rfl
theorem silentLen_list (s : ByteArray) : silentLen s = silL s.data.toList := by unfold silentLen silL; rw [size_list]
theorem tokOf_list (s : ByteArray) : tokOf s = tokL s.data.toList := by
  unfold tokOf tokL; rw [wordLen_list, numLen_list, signLen_list]; rfl
def lexF : Nat → List UInt8 → Nat → List Tok → List Tok × Nat × Int
  | 0, _, _, acc => (acc, 0, 0)
  | k + 1, l, a, acc =>
    if l = [] then (acc, 0, 0)
    else if 0 < silL l then lexF k (l.drop (silL l)) (a + silL l) acc
    else match tokL l with
      | some (q, n) => lexF k (l.drop n) (a + n) (acc ++ [⟨q, ⟨(l.take n).toArray⟩, a⟩])
      | none => ([], a, 5)
theorem extract_list (s : ByteArray) (a n : Nat) : s.extract a (a + n) = ⟨((s.data.toList.drop a).take n).toArray⟩ := by
  have h := Lib.extract_data s a (a + n)
  cases he : s.extract a (a + n) with
  | mk d =>
    congr 1
    apply Array.ext'
    have h' : d.toList = (s.data.toList.drop a).take (a + n - a) := by rw [he] at h; exact h
    simp only [h', List.toList_toArray]
    rw [Nat.add_sub_cancel_left]
theorem readFrom_lex (s : ByteArray) : ∀ (k a : Nat) (acc : List Tok), a ≤ s.size → readFrom s k a acc = lexF k (s.data.toList.drop a) a acc
  | 0, a, acc, _ => rfl
  | k + 1, a, acc, ha => by
    unfold readFrom lexF
    by_cases hlt : a < s.size
    · have hne : s.data.toList.drop a ≠ [] := by
        intro e; have := List.drop_eq_nil_iff.1 e; rw [← size_list] at this; omega
      have hd : (s.extract a s.size).data.toList = s.data.toList.drop a := drop_extract s a
      have hsz : (s.extract a s.size).size = s.size - a := size_extract s a s.size (by omega) (Nat.le_refl _)
      rw [if_pos hlt, if_neg hne, silentLen_list, hd]
      have hsl : silL (s.data.toList.drop a) ≤ s.size - a := by
        unfold silL; rw [List.length_drop, ← size_list]; omega
      by_cases h0 : 0 < silL (s.data.toList.drop a)
      · rw [if_pos h0, if_pos h0, readFrom_lex s k _ acc (by omega), List.drop_drop]
      · rw [if_neg h0, if_neg h0, tokOf_list, hd]
        cases ht : tokL (s.data.toList.drop a) with
        | none => rfl
        | some x =>
          obtain ⟨q, n⟩ := x
          have hn : n ≤ s.size - a := by
            have h1 := wordLen_le (s.extract a s.size)
            have h2 := numLen_le (s.extract a s.size)
            have h3 := signLen_le (s := s.extract a s.size) (by omega)
            have ht' : tokOf (s.extract a s.size) = some (q, n) := by rw [tokOf_list, hd]; exact ht
            unfold tokOf at ht'
            repeat' split at ht'
            all_goals (first | (injection ht' with ht'; injection ht' with _ ht'; subst ht'; omega) | cases ht')
          simp only []
          rw [readFrom_lex s k (a + n) _ (by omega), List.drop_drop, extract_list]
    · rw [if_neg hlt, if_pos (by rw [List.drop_eq_nil_iff, ← size_list]; omega)]
/-- The tokens of a list of bytes, the first byte being number a of the text. -/
def Lexes (l : List UInt8) (a : Nat) (ts : List Tok) : Prop := ∀ k, l.length < k → ∀ acc, lexF k l a acc = (acc ++ ts, 0, 0)
theorem Lexes.nil (a : Nat) : Lexes [] a [] := fun k hk acc => by
  obtain ⟨k, rfl⟩ : ∃ k', k = k' + 1 := ⟨k - 1, by omega⟩
  simp [lexF]
theorem Lexes.sil {l : List UInt8} {a : Nat} {ts : List Tok} (h0 : 0 < silL l) (h : Lexes (l.drop (silL l)) (a + silL l) ts) : Lexes l a ts := fun k hk acc => by
  obtain ⟨k, rfl⟩ : ∃ k', k = k' + 1 := ⟨k - 1, by omega⟩
  have hne : l ≠ [] := by rintro rfl; simp [silL, behind] at h0
  have hle : silL l ≤ l.length := by unfold silL; omega
  rw [lexF, if_neg hne, if_pos h0]
  exact h k (by rw [List.length_drop]; omega) acc
theorem Lexes.tok {l : List UInt8} {a q n : Nat} {ts : List Tok} (hs : silL l = 0) (ht : tokL l = some (q, n)) (h : Lexes (l.drop n) (a + n) ts) : Lexes l a (⟨q, ⟨(l.take n).toArray⟩, a⟩ :: ts) := fun k hk acc => by
  obtain ⟨k, rfl⟩ : ∃ k', k = k' + 1 := ⟨k - 1, by omega⟩
  have hn : 0 < n := by
    unfold tokL at ht
    repeat' split at ht
    all_goals (first | (injection ht with ht; injection ht with _ ht; omega) | cases ht)
  have hne : l ≠ [] := by
    rintro rfl
    have h1 : tokL [] = none := by decide
    rw [h1] at ht; cases ht
  have hp : 0 < l.length := List.length_pos_iff.2 hne
  rw [lexF, if_neg hne, if_neg (by omega), ht]
  simp only []
  rw [h k (by rw [List.length_drop]; omega)]
  simp
theorem readR_lex {s : ByteArray} {ts : List Tok} (hs : s.size ≤ 65536) (h : Lexes s.data.toList 0 ts) : readR s = (ts, 0, 0) := by
  unfold readR
  rw [if_neg (by omega), readFrom_lex s _ 0 [] (by omega), List.drop_zero, h _ (by rw [← size_list]; omega)]
  simp
/-! ### Words, blanks -/
def blankB (b : UInt8) : Bool := blanks.contains b
theorem behind_head {b : UInt8} {r : List UInt8} (hb : blankB b = false) (hm : ¬ (b = 45 ∧ r.head? = some 45)) : behind (b :: r) = b :: r := by
  have ht : Lib.trimLeftS (b :: r) blanks = b :: r := by
    unfold Lib.trimLeftS
    rw [List.dropWhile_cons_of_neg (by simpa [blankB] using hb)]
  rw [behind_neg ht.symm]
  unfold Lib.hasPrefix
  cases r with
  | nil => simp [List.isPrefixOf]
  | cons c r => simp only [List.isPrefixOf, Bool.and_true]; simp only [List.head?_cons, Option.some.injEq] at hm; simp; intro h1 h2; exact hm ⟨h1.symm, h2.symm⟩
theorem silL_zero {b : UInt8} {r : List UInt8} (hb : blankB b = false) (hm : ¬ (b = 45 ∧ r.head? = some 45)) : silL (b :: r) = 0 := by unfold silL; rw [behind_head hb hm]; omega
theorem behind_blank {b : UInt8} {l : List UInt8} (hb : blankB b = true) : behind (b :: l) = behind l := by
  have ht : Lib.trimLeftS (b :: l) blanks = Lib.trimLeftS l blanks := by
    unfold Lib.trimLeftS
    rw [List.dropWhile_cons_of_pos (by simpa [blankB] using hb)]
  unfold behind
  simp only [ht]
/-- A blank, then what is no blank and no comment. -/
theorem Lexes.blank {b c : UInt8} {r : List UInt8} {a : Nat} {ts : List Tok} (hb : blankB b = true) (hc : blankB c = false) (hm : ¬ (c = 45 ∧ r.head? = some 45)) (h : Lexes (c :: r) (a + 1) ts) : Lexes (b :: c :: r) a ts := by
  have hs : silL (b :: c :: r) = 1 := by unfold silL; rw [behind_blank hb, behind_head hc hm]; simp
  exact Lexes.sil (by omega) (by rw [hs]; exact h)
theorem pw_run {p : Int → Int → Bool} : ∀ (w r : List UInt8) (i : Nat), (∀ j b, w[j]? = some b → b.toNat < 128 ∧ p ((i + j : Nat) : Int) b.toNat = true) → (∀ b, r.head? = some b → b.toNat < 128 → p ((i + w.length : Nat) : Int) b.toNat = false) → pw p i (w ++ r) = w.length
  | [], r, i, _, hr => by
    cases r with
    | nil => simp [pw]
    | cons b r =>
      rw [List.nil_append, pw, if_neg (fun e => by have := hr b rfl e.1; simp at this; rw [this] at e; simp at e)]; rfl
  | b :: w, r, i, hw, hr => by
    have h0 := hw 0 b rfl
    rw [List.cons_append, pw, if_pos (by simpa using h0), pw_run w r (i + 1) (fun j c hj => by have := hw (j + 1) c (by simpa using hj); rwa [show i + (j + 1) = i + 1 + j by omega] at this) (fun c hc hlt => by have := hr c hc hlt; rwa [show i + (b :: w).length = i + 1 + w.length by simp only [List.length_cons]; omega] at this)]
    simp only [List.length_cons]; omega


end Go.Proofs.YtclokcmgigdjlaaDoor
