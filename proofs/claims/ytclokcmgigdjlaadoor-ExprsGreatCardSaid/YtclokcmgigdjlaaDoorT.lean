/- Printed by this session's own program out of the translation, and by hand. -/
import Derived.Test.YtclokcmgigdjlaaDoorN
set_option linter.unusedVariables false
set_option linter.unusedSimpArgs false
set_option maxRecDepth 4000
namespace Go.Proofs.YtclokcmgigdjlaaDoor
open Go.FL Go.RowKit Go.Proofs

/-! ### What the tokens' functions come to: plain -/
def letterB (c : Int) : Bool := decide (97 ≤ c ∧ c ≤ 122) || decide (65 ≤ c ∧ c ≤ 90)
def digitB (c : Int) : Bool := decide (48 ≤ c ∧ c ≤ 57)
def wordB (i c : Int) : Bool := letterB c || (decide (0 < i) && (digitB c || decide (c = 95)))
/-- Where the first rune that is not so begins, from pos on. -/
def runFrom (s : ByteArray) (p : Int → Int → Bool) : Nat → Nat → Nat
  | 0, _ => s.size
  | k + 1, pos => if pos < s.size then (if p pos (Utf8.decode s pos).1 then runFrom s p k (pos + (Utf8.decode s pos).2) else pos) else s.size
theorem decode_pos (s : ByteArray) (i : Nat) : 1 ≤ (Utf8.decode s i).2 := by
  unfold Utf8.decode
  simp only []
  repeat' split
  all_goals simp
theorem runFrom_le (s : ByteArray) (p : Int → Int → Bool) : ∀ k pos, runFrom s p k pos ≤ s.size
  | 0, _ => Nat.le_refl _
  | k + 1, pos => by
    unfold runFrom
    split
    · split
      · exact runFrom_le s p k _
      · omega
    · exact Nat.le_refl _
def wordLen (s : ByteArray) : Nat := runFrom s wordB (s.size + 1) 0
def digLen (s : ByteArray) : Nat := runFrom s (fun _ c => digitB c) (s.size + 1) 0
theorem wordLen_le (s : ByteArray) : wordLen s ≤ s.size := runFrom_le ..
theorem digLen_le (s : ByteArray) : digLen s ≤ s.size := runFrom_le ..
def numLen (s : ByteArray) : Nat := if 1 < digLen s ∧ byteAt s 0 = 48 then 0 else digLen s
theorem numLen_le (s : ByteArray) : numLen s ≤ s.size := by unfold numLen; have := digLen_le s; split <;> omega
def pref (s : ByteArray) (p : List UInt8) : Bool := Lib.hasPrefix s.data.toList p
def signs2 : List (List UInt8) := [[60, 61], [61, 61], [33, 61], [45, 62]]
def signs1 : List UInt8 := [40, 41, 58, 59, 44, 61, 43, 45, 42, 47, 37, 60]
def signLen (s : ByteArray) : Nat := if signs2.any (pref s) then 2 else if 0 ≤ Lib.indexByte signs1 (byteAt s 0).toUInt8 then 1 else 0
def blanks : List UInt8 := [32, 9, 10, 13]
/-- Behind blanks, and one comment. -/
def behind (l : List UInt8) : List UInt8 :=
  let r := Lib.trimLeftS l blanks
  if Lib.hasPrefix r [45, 45] then (if Lib.indexByte r 10 < 0 then [] else r.drop (Lib.indexByte r 10).toNat) else r
def silentLen (s : ByteArray) : Nat := s.size - (behind s.data.toList).length
theorem size_mk (l : List UInt8) : (⟨l.toArray⟩ : ByteArray).size = l.length := by simp [ByteArray.size]
theorem data_mk (l : List UInt8) : (⟨l.toArray⟩ : ByteArray).data.toList = l := by simp
theorem trimLeft_le (l cs : List UInt8) : (Lib.trimLeftS l cs).length ≤ l.length := by unfold Lib.trimLeftS; exact (List.dropWhile_sublist _).length_le
theorem size_list (s : ByteArray) : s.size = s.data.toList.length := by show s.data.size = _; simp
theorem indexByte_le : ∀ (l : List UInt8) (c : UInt8), Lib.indexByte l c ≤ l.length
  | [], _ => by rw [Lib.indexByte]; simp
  | b :: l, c => by
    rw [Lib.indexByte]
    have h := indexByte_le l c
    simp only [List.length_cons]
    split
    · omega
    · split <;> omega
theorem signLen_two {s : ByteArray} (p : List UInt8) (hp : p ∈ signs2) (h : pref s p = true) : signLen s = 2 := by
  unfold signLen; rw [if_pos (List.any_eq_true.2 ⟨p, hp, h⟩)]
theorem signLen_not {s : ByteArray} (h : ∀ p ∈ signs2, pref s p = false) : signLen s = if 0 ≤ Lib.indexByte signs1 (byteAt s 0).toUInt8 then 1 else 0 := by
  unfold signLen; rw [if_neg (by simpa [List.any_eq_true] using h)]
theorem drop_extract (r : ByteArray) (a : Nat) : (r.extract a r.size).data.toList = r.data.toList.drop a := by
  rw [Lib.extract_data, size_list, List.take_of_length_le (by simp)]
theorem behind_le (l : List UInt8) : (behind l).length ≤ l.length := by
  have := trimLeft_le l blanks
  unfold behind; simp only []; split
  · split
    · simp
    · simp; omega
  · exact this
theorem behind_pos {l r : List UInt8} (hr : r = Lib.trimLeftS l blanks) (h : Lib.hasPrefix r [45, 45] = true) : behind l = if Lib.indexByte r 10 < 0 then [] else r.drop (Lib.indexByte r 10).toNat := by
  subst hr; unfold behind; simp only []; rw [if_pos h]
theorem behind_neg {l r : List UInt8} (hr : r = Lib.trimLeftS l blanks) (h : Lib.hasPrefix r [45, 45] = false) : behind l = r := by
  subst hr; unfold behind; simp only []; rw [if_neg (by simp [h])]
theorem size_extract (s : ByteArray) (a b : Nat) (h : a ≤ b) (hb : b ≤ s.size) : (s.extract a b).size = b - a := by
  simp [ByteArray.size_extract]; omega

/-- The language's words. -/
def wordsL : List ByteArray := [⟨#[115, 116, 97, 116, 105, 111, 110, 115]⟩, ⟨#[105, 110]⟩, ⟨#[97, 116]⟩, ⟨#[102, 108, 111, 119]⟩, ⟨#[100, 101, 102, 97, 117, 108, 116]⟩, ⟨#[111, 117, 116]⟩, ⟨#[105, 102]⟩, ⟨#[116, 104, 101, 110]⟩, ⟨#[101, 108, 115, 101]⟩, ⟨#[112, 114, 101]⟩, ⟨#[97, 110, 100]⟩, ⟨#[111, 114]⟩, ⟨#[110, 111, 116]⟩, ⟨#[116, 114, 117, 101]⟩, ⟨#[102, 97, 108, 115, 101]⟩, ⟨#[105, 110, 116]⟩, ⟨#[98, 111, 111, 108]⟩]
def nameB (s : ByteArray) : Bool := decide (s ≠ ⟨#[]⟩) && (decide ((s.size : Int) ≤ 40) && (decide ((wordLen s : Int) = (s.size : Int)) && !Lib.containsS wordsL s))
/-- tokens.Number: the number, and the error's number. -/
def numberR (s : ByteArray) : Int × Int :=
  if s = ⟨#[]⟩ ∨ numLen s ≠ s.size then (0, 5) else match Lib.parseIntB 64 s.data.toList with
    | .ok v => (v, 0)
    | _ => (0, 3)
theorem numberR_odd {s : ByteArray} (h : s = ⟨#[]⟩ ∨ numLen s ≠ s.size) : numberR s = (0, 5) := by unfold numberR; rw [if_pos h]
theorem numberR_ok {s : ByteArray} (h : ¬ s = ⟨#[]⟩) (h1 : numLen s = s.size) : numberR s = match Lib.parseIntB 64 s.data.toList with
    | .ok v => (v, 0)
    | _ => (0, 3) := by unfold numberR; rw [if_neg (fun e => e.elim h (fun e => e h1))]
theorem size_pos {s : ByteArray} (h : s ≠ ⟨#[]⟩) : 0 < s.size := by
  rcases Nat.eq_zero_or_pos s.size with h0 | h0
  · exfalso; apply h; cases s; rename_i d; congr 1; exact Array.eq_empty_of_size_eq_zero h0
  · exact h0
theorem ext_bytes (w : World) (e : TypeId) (s : ByteArray) : Ext w (Lib.bytesWorld w e s) := Ext.of_below (Lib.bytesWorld_below w e s)
theorem wordsCells {w : World} {b : Nat} {t : TypeId} (h : Blk w b (wordsL.map .string) t) : ∀ j, j < wordsL.length → w.cell? ⟨b, 0 + j, none⟩ = some (.string (wordsL.getD j ByteArray.empty)) := fun j hj => by
  refine h.cells j _ ?_
  rw [List.getElem?_map, List.getD_eq_getElem?_getD, List.getElem?_eq_getElem hj]; rfl

/-- A token. -/
structure Tok where
  k : Int
  t : ByteArray
  a : Nat
def Tok.enc (t : Tok) : List Value := [.int .u8 t.k, .string t.t, .int .i64 (t.a : Int)]
def encs (l : List Tok) : List Value := l.flatMap Tok.enc
theorem encs_snoc (l : List Tok) (t : Tok) : encs (l ++ [t]) = encs l ++ t.enc := by simp [encs]
def kindLen (i : Nat) (s : ByteArray) : Nat := match i with
  | 0 => wordLen s
  | 1 => numLen s
  | _ => signLen s
def tokOf (s : ByteArray) : Option (Nat × Nat) := if 0 < wordLen s then some (1, wordLen s) else if 0 < numLen s then some (2, numLen s) else if 0 < signLen s then some (3, signLen s) else none
def readFrom (s : ByteArray) : Nat → Nat → List Tok → List Tok × Nat × Int
  | 0, _, l => (l, 0, 0)
  | k + 1, at_, l =>
    if at_ < s.size then
      if 0 < silentLen (s.extract at_ s.size) then readFrom s k (at_ + silentLen (s.extract at_ s.size)) l
      else match tokOf (s.extract at_ s.size) with
        | some (q, n) => readFrom s k (at_ + n) (l ++ [⟨q, s.extract at_ (at_ + n), at_⟩])
        | none => ([], at_, 5)
    else (l, 0, 0)
def readR (s : ByteArray) : List Tok × Nat × Int := if 65536 < s.size then ([], 0, 3) else readFrom s (s.size + 1) 0 []
theorem silentLen_le (s : ByteArray) : silentLen s ≤ s.size := by unfold silentLen; omega
theorem pref_size {s : ByteArray} {p : List UInt8} (h : pref s p = true) : p.length ≤ s.size := by
  rw [size_list]; unfold pref Lib.hasPrefix at h
  exact (List.isPrefixOf_iff_prefix.1 h).length_le
theorem signLen_le {s : ByteArray} (h : 0 < s.size) : signLen s ≤ s.size := by
  unfold signLen
  split
  · rename_i ha
    obtain ⟨p, hp, hq⟩ := List.any_eq_true.1 ha
    have := pref_size hq
    simp [signs2] at hp
    rcases hp with rfl | rfl | rfl | rfl <;> simpa using this
  · split <;> omega
theorem kindLen_le {s : ByteArray} (h : 0 < s.size) (i : Nat) : kindLen i s ≤ s.size := by
  unfold kindLen
  split
  · exact wordLen_le s
  · exact numLen_le s
  · exact signLen_le h
theorem tokOf_some {s : ByteArray} {i : Nat} (hi : i < 3) (hno : ∀ j, j < i → kindLen j s = 0) (h : 0 < kindLen i s) : tokOf s = some (i + 1, kindLen i s) := by
  unfold tokOf
  match i, hi with
  | 0, _ => rw [if_pos (show 0 < wordLen s from h)]; rfl
  | 1, _ => rw [if_neg (by have : wordLen s = 0 := hno 0 (by omega); omega), if_pos (show 0 < numLen s from h)]; rfl
  | 2, _ => rw [if_neg (by have : wordLen s = 0 := hno 0 (by omega); omega), if_neg (by have : numLen s = 0 := hno 1 (by omega); omega), if_pos (show 0 < signLen s from h)]; rfl
theorem tokOf_none {s : ByteArray} (hno : ∀ j, j < 3 → kindLen j s = 0) : tokOf s = none := by
  have h0 : wordLen s = 0 := hno 0 (by omega)
  have h1 : numLen s = 0 := hno 1 (by omega)
  have h2 : signLen s = 0 := hno 2 (by omega)
  unfold tokOf
  rw [if_neg (by omega), if_neg (by omega), if_neg (by omega)]

/-- belfry.tokens.letter -/
theorem letter_spec (c : Int) (w : World) :
    Calls Tryd.prog 33 #[.int .i32 c] w fun e w' => e = .returned (.bool (letterB c)) ∧ Ext w w' := by
  refine calls_of Tryd.func33 rfl Tryd.ntmps33 rfl ?_
  have hEw := Kp.refl (fun _ => False) w
  refine W.seq ?_
  refine W.region ?_
  refine SQ.op rfl rfl rfl (r_assign rfl rfl) ?_
  refine SQ.nil ?_
  refine C.code ?_
  refine W.seq ?_
  refine W.region ?_
  refine SQ.op rfl rfl rfl (r_move rfl rfl) ?_
  refine SQ.op rfl rfl rfl (r_geq rfl rfl rfl) ?_
  refine SQ.opB rfl rfl rfl (r_move rfl rfl) ?_ ?_
  · intro hb1_2
    try simp only [decide_eq_true_eq, decide_eq_false_iff_not, Bool.not_eq_true', Bool.not_eq_false', Bool.not_true, Bool.not_false, Bool.not_eq_true, Bool.not_eq_false] at hb1_2
    refine SQ.guarded rfl rfl rfl rfl rfl ?_
    refine SQ.op rfl rfl rfl (r_move rfl rfl) ?_
    refine SQ.guarded rfl rfl rfl rfl rfl ?_
    refine SQ.op rfl rfl rfl (r_leq rfl rfl rfl) ?_
    refine SQ.op rfl rfl rfl (r_pick_t rfl rfl rfl) ?_
    refine SQ.opB rfl rfl rfl (r_move rfl rfl) ?_ ?_
    · intro hb1_6
      try simp only [decide_eq_true_eq, decide_eq_false_iff_not, Bool.not_eq_true', Bool.not_eq_false', Bool.not_true, Bool.not_false, Bool.not_eq_true, Bool.not_eq_false] at hb1_6
      refine SQ.skip rfl rfl rfl rfl rfl rfl rfl ?_
      refine SQ.skip rfl rfl rfl rfl rfl rfl rfl ?_
      refine SQ.skip rfl rfl rfl rfl rfl rfl rfl ?_
      refine SQ.skipU rfl rfl rfl rfl rfl rfl ?_
      refine SQ.skipU rfl rfl rfl rfl rfl rfl ?_
      refine SQ.skip rfl rfl rfl rfl rfl rfl rfl ?_
      refine SQ.op rfl rfl rfl (r_pick_t rfl rfl rfl) ?_
      refine SQ.op rfl rfl rfl (r_assign rfl rfl) ?_
      refine SQ.nil ?_
      refine C.code ?_
      refine W.ret ?_
      refine C.ret1 Tryd.results33 rfl ?_
      refine ⟨?_, hEw⟩
      first | rfl | (congr 2; rw [Bool.eq_iff_iff]; first | (simp [letterB, *]; done) | (simp [letterB, *]; omega) | (simp [letterB]; omega))
    · intro hb1_6
      try simp only [decide_eq_true_eq, decide_eq_false_iff_not, Bool.not_eq_true', Bool.not_eq_false', Bool.not_true, Bool.not_false, Bool.not_eq_true, Bool.not_eq_false] at hb1_6
      refine SQ.guarded rfl rfl rfl rfl rfl ?_
      refine SQ.op rfl rfl rfl (r_move rfl rfl) ?_
      refine SQ.guarded rfl rfl rfl rfl rfl ?_
      refine SQ.op rfl rfl rfl (r_geq rfl rfl rfl) ?_
      refine SQ.guarded rfl rfl rfl rfl rfl ?_
      refine SQ.opB rfl rfl rfl (r_move rfl rfl) ?_ ?_
      · intro hb1_9
        try simp only [decide_eq_true_eq, decide_eq_false_iff_not, Bool.not_eq_true', Bool.not_eq_false', Bool.not_true, Bool.not_false, Bool.not_eq_true, Bool.not_eq_false] at hb1_9
        refine SQ.guarded rfl rfl rfl rfl rfl ?_
        refine SQ.op rfl rfl rfl (r_move rfl rfl) ?_
        refine SQ.guarded rfl rfl rfl rfl rfl ?_
        refine SQ.op rfl rfl rfl (r_leq rfl rfl rfl) ?_
        refine SQ.guarded rfl rfl rfl rfl rfl ?_
        refine SQ.op rfl rfl rfl (r_pick_t rfl rfl rfl) ?_
        refine SQ.op rfl rfl rfl (r_pick_f rfl rfl rfl) ?_
        refine SQ.op rfl rfl rfl (r_assign rfl rfl) ?_
        refine SQ.nil ?_
        refine C.code ?_
        refine W.ret ?_
        refine C.ret1 Tryd.results33 rfl ?_
        refine ⟨?_, hEw⟩
        first | rfl | (congr 2; rw [Bool.eq_iff_iff]; first | (simp [letterB, *]; done) | (simp [letterB, *]; omega) | (simp [letterB]; omega))
      · intro hb1_9
        try simp only [decide_eq_true_eq, decide_eq_false_iff_not, Bool.not_eq_true', Bool.not_eq_false', Bool.not_true, Bool.not_false, Bool.not_eq_true, Bool.not_eq_false] at hb1_9
        refine SQ.skip rfl rfl rfl rfl rfl rfl rfl ?_
        refine SQ.skip rfl rfl rfl rfl rfl rfl rfl ?_
        refine SQ.guarded rfl rfl rfl rfl rfl ?_
        refine SQ.op rfl rfl rfl (r_pick_f rfl rfl rfl) ?_
        refine SQ.op rfl rfl rfl (r_pick_f rfl rfl rfl) ?_
        refine SQ.op rfl rfl rfl (r_assign rfl rfl) ?_
        refine SQ.nil ?_
        refine C.code ?_
        refine W.ret ?_
        refine C.ret1 Tryd.results33 rfl ?_
        refine ⟨?_, hEw⟩
        first | rfl | (congr 2; rw [Bool.eq_iff_iff]; first | (simp [letterB, *]; done) | (simp [letterB, *]; omega) | (simp [letterB]; omega))
  · intro hb1_2
    try simp only [decide_eq_true_eq, decide_eq_false_iff_not, Bool.not_eq_true', Bool.not_eq_false', Bool.not_true, Bool.not_false, Bool.not_eq_true, Bool.not_eq_false] at hb1_2
    refine SQ.skip rfl rfl rfl rfl rfl rfl rfl ?_
    refine SQ.skip rfl rfl rfl rfl rfl rfl rfl ?_
    refine SQ.op rfl rfl rfl (r_pick_f rfl rfl rfl) ?_
    refine SQ.op rfl rfl rfl (r_move rfl rfl) ?_
    refine SQ.guarded rfl rfl rfl rfl rfl ?_
    refine SQ.op rfl rfl rfl (r_move rfl rfl) ?_
    refine SQ.guarded rfl rfl rfl rfl rfl ?_
    refine SQ.op rfl rfl rfl (r_geq rfl rfl rfl) ?_
    refine SQ.guarded rfl rfl rfl rfl rfl ?_
    refine SQ.opB rfl rfl rfl (r_move rfl rfl) ?_ ?_
    · intro hb1_9
      try simp only [decide_eq_true_eq, decide_eq_false_iff_not, Bool.not_eq_true', Bool.not_eq_false', Bool.not_true, Bool.not_false, Bool.not_eq_true, Bool.not_eq_false] at hb1_9
      refine SQ.guarded rfl rfl rfl rfl rfl ?_
      refine SQ.op rfl rfl rfl (r_move rfl rfl) ?_
      refine SQ.guarded rfl rfl rfl rfl rfl ?_
      refine SQ.op rfl rfl rfl (r_leq rfl rfl rfl) ?_
      refine SQ.guarded rfl rfl rfl rfl rfl ?_
      refine SQ.op rfl rfl rfl (r_pick_t rfl rfl rfl) ?_
      refine SQ.op rfl rfl rfl (r_pick_f rfl rfl rfl) ?_
      refine SQ.op rfl rfl rfl (r_assign rfl rfl) ?_
      refine SQ.nil ?_
      refine C.code ?_
      refine W.ret ?_
      refine C.ret1 Tryd.results33 rfl ?_
      refine ⟨?_, hEw⟩
      first | rfl | (congr 2; rw [Bool.eq_iff_iff]; first | (simp [letterB, *]; done) | (simp [letterB, *]; omega) | (simp [letterB]; omega))
    · intro hb1_9
      try simp only [decide_eq_true_eq, decide_eq_false_iff_not, Bool.not_eq_true', Bool.not_eq_false', Bool.not_true, Bool.not_false, Bool.not_eq_true, Bool.not_eq_false] at hb1_9
      refine SQ.skip rfl rfl rfl rfl rfl rfl rfl ?_
      refine SQ.skip rfl rfl rfl rfl rfl rfl rfl ?_
      refine SQ.guarded rfl rfl rfl rfl rfl ?_
      refine SQ.op rfl rfl rfl (r_pick_f rfl rfl rfl) ?_
      refine SQ.op rfl rfl rfl (r_pick_f rfl rfl rfl) ?_
      refine SQ.op rfl rfl rfl (r_assign rfl rfl) ?_
      refine SQ.nil ?_
      refine C.code ?_
      refine W.ret ?_
      refine C.ret1 Tryd.results33 rfl ?_
      refine ⟨?_, hEw⟩
      first | rfl | (congr 2; rw [Bool.eq_iff_iff]; first | (simp [letterB, *]; done) | (simp [letterB, *]; omega) | (simp [letterB]; omega))

/-- belfry.tokens.digit -/
theorem digit_spec (c : Int) (w : World) :
    Calls Tryd.prog 34 #[.int .i32 c] w fun e w' => e = .returned (.bool (digitB c)) ∧ Ext w w' := by
  refine calls_of Tryd.func34 rfl Tryd.ntmps34 rfl ?_
  have hEw := Kp.refl (fun _ => False) w
  refine W.seq ?_
  refine W.region ?_
  refine SQ.op rfl rfl rfl (r_assign rfl rfl) ?_
  refine SQ.nil ?_
  refine C.code ?_
  refine W.seq ?_
  refine W.region ?_
  refine SQ.op rfl rfl rfl (r_move rfl rfl) ?_
  refine SQ.op rfl rfl rfl (r_geq rfl rfl rfl) ?_
  refine SQ.opB rfl rfl rfl (r_move rfl rfl) ?_ ?_
  · intro hb1_2
    try simp only [decide_eq_true_eq, decide_eq_false_iff_not, Bool.not_eq_true', Bool.not_eq_false', Bool.not_true, Bool.not_false, Bool.not_eq_true, Bool.not_eq_false] at hb1_2
    refine SQ.guarded rfl rfl rfl rfl rfl ?_
    refine SQ.op rfl rfl rfl (r_move rfl rfl) ?_
    refine SQ.guarded rfl rfl rfl rfl rfl ?_
    refine SQ.op rfl rfl rfl (r_leq rfl rfl rfl) ?_
    refine SQ.op rfl rfl rfl (r_pick_t rfl rfl rfl) ?_
    refine SQ.op rfl rfl rfl (r_assign rfl rfl) ?_
    refine SQ.nil ?_
    refine C.code ?_
    refine W.ret ?_
    refine C.ret1 Tryd.results34 rfl ?_
    refine ⟨?_, hEw⟩
    first | rfl | (congr 2; rw [Bool.eq_iff_iff]; first | (simp [digitB, *]; done) | (simp [digitB, *]; omega) | (simp [digitB]; omega))
  · intro hb1_2
    try simp only [decide_eq_true_eq, decide_eq_false_iff_not, Bool.not_eq_true', Bool.not_eq_false', Bool.not_true, Bool.not_false, Bool.not_eq_true, Bool.not_eq_false] at hb1_2
    refine SQ.skip rfl rfl rfl rfl rfl rfl rfl ?_
    refine SQ.skip rfl rfl rfl rfl rfl rfl rfl ?_
    refine SQ.op rfl rfl rfl (r_pick_f rfl rfl rfl) ?_
    refine SQ.op rfl rfl rfl (r_assign rfl rfl) ?_
    refine SQ.nil ?_
    refine C.code ?_
    refine W.ret ?_
    refine C.ret1 Tryd.results34 rfl ?_
    refine ⟨?_, hEw⟩
    first | rfl | (congr 2; rw [Bool.eq_iff_iff]; first | (simp [digitB, *]; done) | (simp [digitB, *]; omega) | (simp [digitB]; omega))

/-- belfry.tokens.ofWord_1 -/
theorem ofWord1_spec (i c : Int) (w : World) :
    Calls Tryd.prog 32 #[.int .i64 i, .int .i32 c] w fun e w' => e = .returned (.bool (wordB i c)) ∧ Ext w w' := by
  refine calls_of Tryd.func32 rfl Tryd.ntmps32 rfl ?_
  have hEw := Kp.refl (fun _ => False) w
  refine W.seq ?_
  refine W.region ?_
  refine SQ.op rfl rfl rfl (r_assign rfl rfl) ?_
  refine SQ.nil ?_
  refine C.code ?_
  refine W.seq ?_
  refine W.region ?_
  refine SQ.op rfl rfl rfl (r_move rfl rfl) ?_
  have hsz1 := hEw.size
  refine SQ.call rfl rfl rfl (rc_func rfl rfl Tryd.call33) (letter_spec _ _) ?_
  rintro _ wv2 ⟨rfl, hE3⟩
  refine ⟨_, rfl, ?_⟩
  replace hEw := hEw.ext hE3
  refine SQ.opB rfl rfl rfl (r_move rfl rfl) ?_ ?_
  · intro hb1_2
    try simp only [decide_eq_true_eq, decide_eq_false_iff_not, Bool.not_eq_true', Bool.not_eq_false', Bool.not_true, Bool.not_false, Bool.not_eq_true, Bool.not_eq_false] at hb1_2
    refine SQ.skip rfl rfl rfl rfl rfl rfl rfl ?_
    refine SQ.skip rfl rfl rfl rfl rfl rfl rfl ?_
    refine SQ.skip rfl rfl rfl rfl rfl rfl rfl ?_
    refine SQ.skipU rfl rfl rfl rfl rfl rfl ?_
    refine SQ.skipU rfl rfl rfl rfl rfl rfl ?_
    refine SQ.skipU rfl rfl rfl rfl rfl rfl ?_
    refine SQ.skipU rfl rfl rfl rfl rfl rfl ?_
    refine SQ.skipU rfl rfl rfl rfl rfl rfl ?_
    refine SQ.skipU rfl rfl rfl rfl rfl rfl ?_
    refine SQ.skip rfl rfl rfl rfl rfl rfl rfl ?_
    refine SQ.op rfl rfl rfl (r_pick_t rfl rfl rfl) ?_
    refine SQ.op rfl rfl rfl (r_assign rfl rfl) ?_
    refine SQ.nil ?_
    refine C.code ?_
    refine W.ret ?_
    refine C.ret1 Tryd.results32 rfl ?_
    refine ⟨?_, hEw⟩
    first | rfl | (congr 2; rw [Bool.eq_iff_iff]; first | (simp [wordB, *]; done) | (simp [wordB, *]; omega) | (simp [wordB]; omega))
  · intro hb1_2
    try simp only [decide_eq_true_eq, decide_eq_false_iff_not, Bool.not_eq_true', Bool.not_eq_false', Bool.not_true, Bool.not_false, Bool.not_eq_true, Bool.not_eq_false] at hb1_2
    refine SQ.guarded rfl rfl rfl rfl rfl ?_
    refine SQ.op rfl rfl rfl (r_move rfl rfl) ?_
    refine SQ.guarded rfl rfl rfl rfl rfl ?_
    refine SQ.op rfl rfl rfl (r_gtr rfl rfl rfl) ?_
    refine SQ.guarded rfl rfl rfl rfl rfl ?_
    refine SQ.opB rfl rfl rfl (r_move rfl rfl) ?_ ?_
    · intro hb1_5
      try simp only [decide_eq_true_eq, decide_eq_false_iff_not, Bool.not_eq_true', Bool.not_eq_false', Bool.not_true, Bool.not_false, Bool.not_eq_true, Bool.not_eq_false] at hb1_5
      refine SQ.guarded rfl rfl rfl rfl rfl ?_
      refine SQ.op rfl rfl rfl (r_move rfl rfl) ?_
      refine SQ.guarded rfl rfl rfl rfl rfl ?_
      have hsz4 := hEw.size
      refine SQ.call rfl rfl rfl (rc_func rfl rfl Tryd.call34) (digit_spec _ _) ?_
      rintro _ wv5 ⟨rfl, hE6⟩
      refine ⟨_, rfl, ?_⟩
      replace hEw := hEw.ext hE6
      refine SQ.guarded rfl rfl rfl rfl rfl ?_
      refine SQ.opB rfl rfl rfl (r_move rfl rfl) ?_ ?_
      · intro hb1_8
        try simp only [decide_eq_true_eq, decide_eq_false_iff_not, Bool.not_eq_true', Bool.not_eq_false', Bool.not_true, Bool.not_false, Bool.not_eq_true, Bool.not_eq_false] at hb1_8
        refine SQ.skip rfl rfl rfl rfl rfl rfl rfl ?_
        refine SQ.skip rfl rfl rfl rfl rfl rfl rfl ?_
        refine SQ.guarded rfl rfl rfl rfl rfl ?_
        refine SQ.op rfl rfl rfl (r_pick_t rfl rfl rfl) ?_
        refine SQ.guarded rfl rfl rfl rfl rfl ?_
        refine SQ.op rfl rfl rfl (r_pick_t rfl rfl rfl) ?_
        refine SQ.op rfl rfl rfl (r_pick_f rfl rfl rfl) ?_
        refine SQ.op rfl rfl rfl (r_assign rfl rfl) ?_
        refine SQ.nil ?_
        refine C.code ?_
        refine W.ret ?_
        refine C.ret1 Tryd.results32 rfl ?_
        refine ⟨?_, hEw⟩
        first | rfl | (congr 2; rw [Bool.eq_iff_iff]; first | (simp [wordB, *]; done) | (simp [wordB, *]; omega) | (simp [wordB]; omega))
      · intro hb1_8
        try simp only [decide_eq_true_eq, decide_eq_false_iff_not, Bool.not_eq_true', Bool.not_eq_false', Bool.not_true, Bool.not_false, Bool.not_eq_true, Bool.not_eq_false] at hb1_8
        refine SQ.guarded rfl rfl rfl rfl rfl ?_
        refine SQ.op rfl rfl rfl (r_move rfl rfl) ?_
        refine SQ.guarded rfl rfl rfl rfl rfl ?_
        refine SQ.op rfl rfl rfl (r_eqlInt rfl rfl rfl) ?_
        refine SQ.guarded rfl rfl rfl rfl rfl ?_
        refine SQ.op rfl rfl rfl (r_pick_f rfl rfl rfl) ?_
        refine SQ.guarded rfl rfl rfl rfl rfl ?_
        refine SQ.op rfl rfl rfl (r_pick_t rfl rfl rfl) ?_
        refine SQ.op rfl rfl rfl (r_pick_f rfl rfl rfl) ?_
        refine SQ.op rfl rfl rfl (r_assign rfl rfl) ?_
        refine SQ.nil ?_
        refine C.code ?_
        refine W.ret ?_
        refine C.ret1 Tryd.results32 rfl ?_
        refine ⟨?_, hEw⟩
        first | rfl | (congr 2; rw [Bool.eq_iff_iff]; first | (simp [wordB, *]; done) | (simp [wordB, *]; omega) | (simp [wordB]; omega))
    · intro hb1_5
      try simp only [decide_eq_true_eq, decide_eq_false_iff_not, Bool.not_eq_true', Bool.not_eq_false', Bool.not_true, Bool.not_false, Bool.not_eq_true, Bool.not_eq_false] at hb1_5
      refine SQ.skip rfl rfl rfl rfl rfl rfl rfl ?_
      refine SQ.skip rfl rfl rfl rfl rfl rfl rfl ?_
      refine SQ.skip rfl rfl rfl rfl rfl rfl rfl ?_
      refine SQ.skipU rfl rfl rfl rfl rfl rfl ?_
      refine SQ.skipU rfl rfl rfl rfl rfl rfl ?_
      refine SQ.skip rfl rfl rfl rfl rfl rfl rfl ?_
      refine SQ.guarded rfl rfl rfl rfl rfl ?_
      refine SQ.op rfl rfl rfl (r_pick_f rfl rfl rfl) ?_
      refine SQ.op rfl rfl rfl (r_pick_f rfl rfl rfl) ?_
      refine SQ.op rfl rfl rfl (r_assign rfl rfl) ?_
      refine SQ.nil ?_
      refine C.code ?_
      refine W.ret ?_
      refine C.ret1 Tryd.results32 rfl ?_
      refine ⟨?_, hEw⟩
      first | rfl | (congr 2; rw [Bool.eq_iff_iff]; first | (simp [wordB, *]; done) | (simp [wordB, *]; omega) | (simp [wordB]; omega))

/-- belfry.tokens.ofNumber_1 -/
theorem ofNumber1_spec (i c : Int) (w : World) :
    Calls Tryd.prog 35 #[.int .i64 i, .int .i32 c] w fun e w' => e = .returned (.bool (digitB c)) ∧ Ext w w' := by
  refine calls_of Tryd.func35 rfl Tryd.ntmps35 rfl ?_
  have hEw := Kp.refl (fun _ => False) w
  refine W.seq ?_
  refine W.region ?_
  refine SQ.op rfl rfl rfl (r_assign rfl rfl) ?_
  refine SQ.nil ?_
  refine C.code ?_
  refine W.seq ?_
  refine W.region ?_
  refine SQ.op rfl rfl rfl (r_move rfl rfl) ?_
  have hsz1 := hEw.size
  refine SQ.call rfl rfl rfl (rc_func rfl rfl Tryd.call34) (digit_spec _ _) ?_
  rintro _ wv2 ⟨rfl, hE3⟩
  refine ⟨_, rfl, ?_⟩
  replace hEw := hEw.ext hE3
  refine SQ.op rfl rfl rfl (r_assign rfl rfl) ?_
  refine SQ.nil ?_
  refine C.code ?_
  refine W.ret ?_
  refine C.ret1 Tryd.results35 rfl ?_
  exact ⟨rfl, hEw⟩

/-- belfry.tokens.run -/
theorem run_spec (s : ByteArray) (f : FuncId) (p : Int → Int → Bool) (hs : s.size ≤ 1000000000000) (hf : ∀ (args : Array Value) (w : World), (callFunc f args).run Tryd.prog w = .ok (.enter f args) w)
    (hp : ∀ (i c : Int) (w : World), Calls Tryd.prog f #[.int .i64 i, .int .i32 c] w fun e w' => e = .returned (.bool (p i c)) ∧ Ext w w') (w : World) :
    Calls Tryd.prog 31 #[.string s, .func (.func f) #[] #[]] w fun e w' => e = .returned (.int .i64 (runFrom s p (s.size + 1) 0 : Nat)) ∧ Ext w w' := by
  refine calls_of Tryd.func31 rfl Tryd.ntmps31 rfl ?_
  have hEw := Kp.refl (fun _ => False) w
  refine W.seq ?_
  refine W.region ?_
  refine SQ.op rfl rfl rfl (r_assign rfl rfl) ?_
  refine SQ.nil ?_
  refine C.code ?_
  refine W.seq ?_
  refine W.seq ?_
  refine W.region ?_
  refine SQ.op rfl rfl rfl (r_move rfl rfl) ?_
  have hsz5 := hEw.size
  refine SQ.new (v := (fun nb => .pointer (some ⟨nb, 0, none⟩))) rfl rfl rfl (r_rangeStr rfl rfl Tryd.underlying9) ?_
  intro nb8 wv1 hge2 hlt3 hB8 hE4
  replace hEw := hEw.ext hE4
  replace hB8 : Ob wv1 nb8 _ := hB8
  refine SQ.nil ?_
  refine C.code ?_
  refine W.block ?_
  refine W.loop (α := Nat × Nat) (fun g => [(0, .string s), (1, .func (.func f) #[] #[]), (8, .pointer (some ⟨nb8, 0, none⟩))]) (fun g w1 => Ob w1 nb8 (.stringIter s g.1) ∧ Ext w w1 ∧ w.heap.size ≤ nb8 ∧ s.size + 1 ≤ g.1 + g.2 ∧ runFrom s p (s.size + 1) 0 = runFrom s p g.2 g.1) (fun g => s.size - g.1) (0, s.size + 1) ⟨rfl, rfl, rfl, trivial⟩ ⟨hB8, hEw, by omega, by omega, rfl⟩ ?_
  rintro ⟨pos, k⟩ wl ⟨hB8, hEw, hge8, hk, hrun⟩
  dsimp only at hB8 hk hrun ⊢
  have hwd := decode_pos s pos
  refine W.seq ?_
  refine W.region ?_
  by_cases hlt : pos < s.size
  · refine SQ.nextS rfl rfl rfl rfl rfl hB8 hlt ?_
    intro w1 hB1 hK1
    replace hB8 := hB1
    clear hB1
    replace hEw := hEw.new hK1 (by intro b hb; subst hb; omega)
    refine SQ.op rfl rfl rfl (r_extract rfl rfl rfl) ?_
    refine SQ.nil ?_
    refine C.code ?_
    refine W.seq ?_
    refine W.cond_t rfl ?_
    refine W.skip ?_
    refine C.code ?_
    refine W.block ?_
    refine W.seq ?_
    refine W.region ?_
    refine SQ.op rfl rfl rfl (r_extract rfl rfl rfl) ?_
    refine SQ.op rfl rfl rfl (r_extract rfl rfl rfl) ?_
    refine SQ.op rfl rfl rfl (r_assign rfl rfl) ?_
    refine SQ.op rfl rfl rfl (r_assign rfl rfl) ?_
    refine SQ.nil ?_
    refine C.code ?_
    refine W.seq ?_
    refine W.region ?_
    refine SQ.op rfl rfl rfl (r_move rfl rfl) ?_
    refine SQ.op rfl rfl rfl (r_move rfl rfl) ?_
    refine SQ.op rfl rfl rfl (r_move rfl rfl) ?_
    have hsz6 := hEw.size
    refine SQ.call rfl rfl rfl (rc_value (fs := []) (cs := []) rfl rfl rfl hf) (hp _ _ _) ?_
    rintro _ wv7 ⟨rfl, hE8⟩
    refine ⟨_, rfl, ?_⟩
    replace hB8 := hB8.ext hE8
    replace hEw := hEw.ext hE8
    refine both (G := fun v => SQ _ _ _ _ _ _ ((_, v) :: _) _) ?_ ?_
    · intro hb4_3
      refine SQ.op rfl rfl rfl (r_not rfl rfl) ?_
      refine SQ.nil ?_
      refine C.code ?_
      refine W.cond_f rfl ?_
      refine W.skip ?_
      refine C.round (pos + (Utf8.decode s pos).2, k - 1) ?_ ?_ ?_
      · exact ⟨rfl, rfl, rfl, trivial⟩
      rotate_left
      · dsimp only; omega
      refine ⟨hB8, hEw, hge8, by dsimp only; omega, ?_⟩
      obtain ⟨m, rfl⟩ : ∃ m, k = m + 1 := ⟨k - 1, by omega⟩
      rw [hrun, runFrom, if_pos hlt, if_pos hb4_3]; rfl
    · intro hb4_3
      refine SQ.op rfl rfl rfl (r_not rfl rfl) ?_
      refine SQ.nil ?_
      refine C.code ?_
      refine W.cond_t rfl ?_
      refine W.seq ?_
      refine W.region ?_
      refine SQ.op rfl rfl rfl (r_move rfl rfl) ?_
      refine SQ.op rfl rfl rfl (r_assign rfl rfl) ?_
      refine SQ.nil ?_
      refine C.code ?_
      refine W.ret ?_
      refine C.ret1 Tryd.results31 (v := _) rfl ?_
      refine ⟨?_, hEw⟩
      first
        | (obtain ⟨m, rfl⟩ : ∃ m, k = m + 1 := ⟨k - 1, by omega⟩; rw [hrun, runFrom, if_pos hlt, if_neg (by simp [hb4_3])])
        | (rw [hrun]; cases k with
            | zero => rfl
            | succ m => rw [runFrom, if_neg hlt])
  · refine SQ.nextE rfl rfl rfl rfl rfl hB8 hlt ?_
    refine SQ.op rfl rfl rfl (r_extract rfl rfl rfl) ?_
    refine SQ.nil ?_
    refine C.code ?_
    refine W.seq ?_
    refine W.cond_f rfl ?_
    refine W.exit rfl ?_
    refine C.code ?_
    refine W.seq ?_
    refine W.region ?_
    refine SQ.op rfl rfl rfl (r_move rfl rfl) ?_
    refine SQ.op rfl rfl rfl (r_lenStr rfl rfl Tryd.underlying9) ?_
    refine SQ.op rfl rfl rfl (r_assign rfl rfl) ?_
    refine SQ.nil ?_
    refine C.code ?_
    refine W.ret ?_
    refine C.ret1 Tryd.results31 (v := _) rfl ?_
    refine ⟨?_, hEw⟩
    first
      | (obtain ⟨m, rfl⟩ : ∃ m, k = m + 1 := ⟨k - 1, by omega⟩; rw [hrun, runFrom, if_pos hlt, if_neg (by simp [hb4_3])])
      | (rw [hrun]; cases k with
          | zero => rfl
          | succ m => rw [runFrom, if_neg hlt])

/-- belfry.tokens.ofWord -/
theorem ofWord_run (s : ByteArray) (hs : s.size ≤ 1000000000000) (w : World) :
    Calls Tryd.prog 22 #[.string s] w fun e w' => e = .returned (.int .i64 (runFrom s wordB (s.size + 1) 0 : Nat)) ∧ Ext w w' := by
  refine calls_of Tryd.func22 rfl Tryd.ntmps22 rfl ?_
  have hEw := Kp.refl (fun _ => False) w
  refine W.seq ?_
  refine W.region ?_
  refine SQ.op rfl rfl rfl (r_assign rfl rfl) ?_
  refine SQ.nil ?_
  refine C.code ?_
  refine W.seq ?_
  refine W.region ?_
  refine SQ.op rfl rfl rfl (r_move rfl rfl) ?_
  have hsz1 := hEw.size
  refine SQ.call rfl rfl rfl (rc_func rfl rfl Tryd.call31) (run_spec s 32 wordB hs Tryd.call32 (fun i c w => ofWord1_spec i c w) _) ?_
  rintro _ wv2 ⟨rfl, hE3⟩
  refine ⟨_, rfl, ?_⟩
  replace hEw := hEw.ext hE3
  refine SQ.op rfl rfl rfl (r_assign rfl rfl) ?_
  refine SQ.nil ?_
  refine C.code ?_
  refine W.ret ?_
  refine C.ret1 Tryd.results22 rfl ?_
  exact ⟨rfl, hEw⟩

theorem ofWord_spec (s : ByteArray) (hs : s.size ≤ 1000000000000) (w : World) : Calls Tryd.prog 22 #[.string s] w fun e w' => e = .returned (.int .i64 (wordLen s : Nat)) ∧ Ext w w' := ofWord_run s hs w
/-- belfry.tokens.ofNumber -/
theorem ofNumber_spec (s : ByteArray) (hs : s.size ≤ 1000000000000) (w : World) :
    Calls Tryd.prog 23 #[.string s] w fun e w' => e = .returned (.int .i64 (numLen s : Nat)) ∧ Ext w w' := by
  refine calls_of Tryd.func23 rfl Tryd.ntmps23 rfl ?_
  have hEw := Kp.refl (fun _ => False) w
  refine W.seq ?_
  refine W.region ?_
  refine SQ.op rfl rfl rfl (r_assign rfl rfl) ?_
  refine SQ.nil ?_
  refine C.code ?_
  refine W.seq ?_
  refine W.region ?_
  refine SQ.op rfl rfl rfl (r_move rfl rfl) ?_
  have hsz1 := hEw.size
  refine SQ.call rfl rfl rfl (rc_func rfl rfl Tryd.call31) (run_spec s 35 (fun _ c => digitB c) hs Tryd.call35 (fun i c w => ofNumber1_spec i c w) _) ?_
  rintro _ wv2 ⟨rfl, hE3⟩
  refine ⟨_, rfl, ?_⟩
  replace hEw := hEw.ext hE3
  have hdl := digLen_le s
  have hdl2 : runFrom s (fun _ c => digitB c) (s.size + 1) 0 = digLen s := rfl
  rw [hdl2]
  clear hdl2
  refine SQ.op rfl rfl rfl (r_assign rfl rfl) ?_
  refine SQ.nil ?_
  refine C.code ?_
  refine W.seq ?_
  refine W.seq ?_
  refine W.region ?_
  refine SQ.op rfl rfl rfl (r_move rfl rfl) ?_
  refine SQ.op rfl rfl rfl (r_gtr rfl rfl rfl) ?_
  refine SQ.opB rfl rfl rfl (r_move rfl rfl) ?_ ?_
  · intro hb2_2
    try simp only [decide_eq_true_eq, decide_eq_false_iff_not, Bool.not_eq_true', Bool.not_eq_false', Bool.not_true, Bool.not_false, Bool.not_eq_true, Bool.not_eq_false] at hb2_2
    refine SQ.guarded rfl rfl rfl rfl rfl ?_
    refine SQ.op rfl rfl rfl (r_move rfl rfl) ?_
    refine SQ.guarded rfl rfl rfl rfl rfl ?_
    refine SQ.op rfl rfl rfl (r_indexStr rfl rfl rfl Tryd.underlying9 rfl (by omega) (j := 0)) ?_
    refine SQ.guarded rfl rfl rfl rfl rfl ?_
    refine SQ.opB rfl rfl rfl (r_eqlInt rfl rfl rfl) ?_ ?_
    · intro hb2_5
      try simp only [decide_eq_true_eq, decide_eq_false_iff_not, Bool.not_eq_true', Bool.not_eq_false', Bool.not_true, Bool.not_false, Bool.not_eq_true, Bool.not_eq_false] at hb2_5
      refine SQ.op rfl rfl rfl (r_pick_t rfl rfl rfl) ?_
      refine SQ.nil ?_
      refine C.code ?_
      refine W.cond_t rfl ?_
      refine W.seq ?_
      refine W.region ?_
      refine SQ.op rfl rfl rfl (r_assign rfl rfl) ?_
      refine SQ.nil ?_
      refine C.code ?_
      refine W.ret ?_
      refine C.ret1 Tryd.results23 rfl ?_
      refine ⟨ret_int ?_, hEw⟩
      unfold numLen; split <;> omega
    · intro hb2_5
      try simp only [decide_eq_true_eq, decide_eq_false_iff_not, Bool.not_eq_true', Bool.not_eq_false', Bool.not_true, Bool.not_false, Bool.not_eq_true, Bool.not_eq_false] at hb2_5
      refine SQ.op rfl rfl rfl (r_pick_t rfl rfl rfl) ?_
      refine SQ.nil ?_
      refine C.code ?_
      refine W.cond_f rfl ?_
      refine W.skip ?_
      refine C.code ?_
      refine W.seq ?_
      refine W.region ?_
      refine SQ.op rfl rfl rfl (r_move rfl rfl) ?_
      refine SQ.op rfl rfl rfl (r_assign rfl rfl) ?_
      refine SQ.nil ?_
      refine C.code ?_
      refine W.ret ?_
      refine C.ret1 Tryd.results23 rfl ?_
      refine ⟨ret_int ?_, hEw⟩
      unfold numLen; split <;> omega
  · intro hb2_2
    try simp only [decide_eq_true_eq, decide_eq_false_iff_not, Bool.not_eq_true', Bool.not_eq_false', Bool.not_true, Bool.not_false, Bool.not_eq_true, Bool.not_eq_false] at hb2_2
    refine SQ.skip rfl rfl rfl rfl rfl rfl rfl ?_
    refine SQ.skip rfl rfl rfl rfl rfl rfl rfl ?_
    refine SQ.skip rfl rfl rfl rfl rfl rfl rfl ?_
    refine SQ.op rfl rfl rfl (r_pick_f rfl rfl rfl) ?_
    refine SQ.nil ?_
    refine C.code ?_
    refine W.cond_f rfl ?_
    refine W.skip ?_
    refine C.code ?_
    refine W.seq ?_
    refine W.region ?_
    refine SQ.op rfl rfl rfl (r_move rfl rfl) ?_
    refine SQ.op rfl rfl rfl (r_assign rfl rfl) ?_
    refine SQ.nil ?_
    refine C.code ?_
    refine W.ret ?_
    refine C.ret1 Tryd.results23 rfl ?_
    refine ⟨ret_int ?_, hEw⟩
    unfold numLen; split <;> omega

/-- belfry.tokens.ofSigns -/
theorem ofSigns_spec (s : ByteArray) (hs : 0 < s.size) (w : World) :
    Calls Tryd.prog 24 #[.string s] w fun e w' => e = .returned (.int .i64 (signLen s : Nat)) ∧ Ext w w' := by
  refine calls_of Tryd.func24 rfl Tryd.ntmps24 rfl ?_
  have hEw := Kp.refl (fun _ => False) w
  refine W.seq ?_
  refine W.region ?_
  refine SQ.op rfl rfl rfl (r_assign rfl rfl) ?_
  refine SQ.nil ?_
  refine C.code ?_
  refine W.seq ?_
  refine W.seq ?_
  refine W.region ?_
  refine SQ.op rfl rfl rfl (r_buildArr rfl rfl Tryd.underlying79 Tryd.zeroValue79 Tryd.sizeOf9 rfl) ?_
  refine SQ.op rfl rfl rfl (r_move rfl rfl) ?_
  refine SQ.nil ?_
  refine C.code ?_
  refine W.block ?_
  refine W.loop (α := Nat) (fun i => [(0, .string s), (5, .agg #[.string ⟨#[60, 61]⟩, .string ⟨#[61, 61]⟩, .string ⟨#[33, 61]⟩, .string ⟨#[45, 62]⟩]), (6, .int .i64 (i : Int))]) (fun i w1 => Ext w w1 ∧ i ≤ 4 ∧ ∀ j p, j < i → signs2[j]? = some p → pref s p = false) (fun i => 4 - i) 0 ⟨rfl, rfl, rfl, trivial⟩ ⟨hEw, by omega, fun j p h => absurd h (by omega)⟩ ?_
  rintro i wl0 ⟨hEw, hi4, hno⟩
  by_cases hi : i < 4
  · obtain rfl | rfl | rfl | rfl : i = 0 ∨ i = 1 ∨ i = 2 ∨ i = 3 := by omega
    all_goals
      refine W.seq ?_
      refine W.region ?_
      refine SQ.opD true rfl rfl rfl (r_lss rfl rfl rfl) (by decide) ?_
      refine SQ.nil ?_
      refine C.code ?_
      refine W.seq ?_
      refine W.cond_t rfl ?_
      refine W.skip ?_
      refine C.code ?_
      refine W.seq ?_
      refine W.block ?_
      refine W.seq ?_
      refine W.region ?_
      refine SQ.op rfl rfl rfl (r_indexArr1 rfl rfl rfl Tryd.underlying79 Tryd.sizeOf9 Tryd.isAgg9 rfl (by omega) rfl) ?_
      refine SQ.op rfl rfl rfl (r_assign rfl rfl) ?_
      refine SQ.nil ?_
      refine C.code ?_
      refine W.seq ?_
      refine W.region ?_
      refine SQ.op rfl rfl rfl (r_move rfl rfl) ?_
      refine SQ.op rfl rfl rfl (r_move rfl rfl) ?_
      have hsz1 := hEw.size
      refine SQ.call rfl rfl rfl (rc_func rfl rfl Tryd.call36) (of_same (Tryd.strings_HasPrefix _ _ _)) ?_
      rintro _ wv2 ⟨rfl, hE3⟩
      refine ⟨_, rfl, ?_⟩
      replace hEw := hEw.ext hE3
      refine SQ.nil ?_
      refine C.code ?_
      refine W.cond rfl ?_ ?_
      · intro hc4
        try simp only [decide_eq_true_eq, decide_eq_false_iff_not, Bool.not_eq_true', Bool.not_eq_false', Bool.not_true, Bool.not_false, Bool.not_eq_true, Bool.not_eq_false] at hc4
        refine W.seq ?_
        refine W.region ?_
        refine SQ.op rfl rfl rfl (r_move rfl rfl) ?_
        refine SQ.op rfl rfl rfl (r_lenStr rfl rfl Tryd.underlying9) ?_
        refine SQ.op rfl rfl rfl (r_assign rfl rfl) ?_
        refine SQ.nil ?_
        refine C.code ?_
        refine W.ret ?_
        refine C.ret1 Tryd.results24 rfl ?_
        refine ⟨ret_int ?_, hEw⟩
        first
          | (rw [signLen_two [60, 61] (by simp [signs2]) (by assumption)]; rfl)
          | (rw [signLen_two [61, 61] (by simp [signs2]) (by assumption)]; rfl)
          | (rw [signLen_two [33, 61] (by simp [signs2]) (by assumption)]; rfl)
          | (rw [signLen_two [45, 62] (by simp [signs2]) (by assumption)]; rfl)
          | (rw [signLen_not (fun p hp => by
                obtain ⟨j, hj⟩ := List.getElem?_of_mem hp
                exact hno j p (by have := (List.getElem?_eq_some_iff.1 hj).1; simp [signs2] at this; omega) hj)]
             first | rw [if_pos (by assumption)] | rw [if_neg (by assumption)]
             rfl)
      · intro hc4
        try simp only [decide_eq_true_eq, decide_eq_false_iff_not, Bool.not_eq_true', Bool.not_eq_false', Bool.not_true, Bool.not_false, Bool.not_eq_true, Bool.not_eq_false] at hc4
        refine W.skip ?_
        refine C.code ?_
        refine W.region ?_
        refine SQ.op rfl rfl rfl (r_add rfl rfl rfl (w64 (by omega))) ?_
        refine SQ.op rfl rfl rfl (r_move rfl rfl) ?_
        refine SQ.nil ?_
        first
          | (refine C.round 1 ⟨rfl, rfl, rfl, trivial⟩ ⟨hEw, by omega, fun j p hj hp => ?_⟩ (by omega); rcases Nat.lt_or_ge j 0 with e | e; · exact hno j p e hp
             obtain rfl : j = 0 := by omega
             simp [signs2] at hp; subst hp; assumption)
          | (refine C.round 2 ⟨rfl, rfl, rfl, trivial⟩ ⟨hEw, by omega, fun j p hj hp => ?_⟩ (by omega); rcases Nat.lt_or_ge j 1 with e | e; · exact hno j p e hp
             obtain rfl : j = 1 := by omega
             simp [signs2] at hp; subst hp; assumption)
          | (refine C.round 3 ⟨rfl, rfl, rfl, trivial⟩ ⟨hEw, by omega, fun j p hj hp => ?_⟩ (by omega); rcases Nat.lt_or_ge j 2 with e | e; · exact hno j p e hp
             obtain rfl : j = 2 := by omega
             simp [signs2] at hp; subst hp; assumption)
          | (refine C.round 4 ⟨rfl, rfl, rfl, trivial⟩ ⟨hEw, by omega, fun j p hj hp => ?_⟩ (by omega); rcases Nat.lt_or_ge j 3 with e | e; · exact hno j p e hp
             obtain rfl : j = 3 := by omega
             simp [signs2] at hp; subst hp; assumption)
  · refine W.seq ?_
    refine W.region ?_
    refine SQ.opD false rfl rfl rfl (r_lss rfl rfl rfl) (by simp; omega) ?_
    refine SQ.nil ?_
    refine C.code ?_
    refine W.seq ?_
    refine W.cond_f rfl ?_
    refine W.exit rfl ?_
    refine C.code ?_
    refine W.seq ?_
    refine W.seq ?_
    refine W.region ?_
    refine SQ.op rfl rfl rfl (r_move rfl rfl) ?_
    refine SQ.op rfl rfl rfl (r_indexStr rfl rfl rfl Tryd.underlying9 rfl (by omega) (j := 0)) ?_
    have hsz5 := hEw.size
    refine SQ.call rfl rfl rfl (rc_func rfl rfl Tryd.call37) (of_same (Tryd.strings_IndexByte _ _ _)) ?_
    rintro _ wv6 ⟨rfl, hE7⟩
    refine ⟨_, rfl, ?_⟩
    replace hEw := hEw.ext hE7
    refine SQ.opB rfl rfl rfl (r_geq rfl rfl rfl) ?_ ?_
    · intro hb7_3
      try simp only [decide_eq_true_eq, decide_eq_false_iff_not, Bool.not_eq_true', Bool.not_eq_false', Bool.not_true, Bool.not_false, Bool.not_eq_true, Bool.not_eq_false] at hb7_3
      refine SQ.nil ?_
      refine C.code ?_
      refine W.cond_t rfl ?_
      refine W.seq ?_
      refine W.region ?_
      refine SQ.op rfl rfl rfl (r_assign rfl rfl) ?_
      refine SQ.nil ?_
      refine C.code ?_
      refine W.ret ?_
      refine C.ret1 Tryd.results24 rfl ?_
      refine ⟨ret_int ?_, hEw⟩
      first
        | (rw [signLen_two [60, 61] (by simp [signs2]) (by assumption)]; rfl)
        | (rw [signLen_two [61, 61] (by simp [signs2]) (by assumption)]; rfl)
        | (rw [signLen_two [33, 61] (by simp [signs2]) (by assumption)]; rfl)
        | (rw [signLen_two [45, 62] (by simp [signs2]) (by assumption)]; rfl)
        | (rw [signLen_not (fun p hp => by
              obtain ⟨j, hj⟩ := List.getElem?_of_mem hp
              exact hno j p (by have := (List.getElem?_eq_some_iff.1 hj).1; simp [signs2] at this; omega) hj)]
           first | rw [if_pos (by assumption)] | rw [if_neg (by assumption)]
           rfl)
    · intro hb7_3
      try simp only [decide_eq_true_eq, decide_eq_false_iff_not, Bool.not_eq_true', Bool.not_eq_false', Bool.not_true, Bool.not_false, Bool.not_eq_true, Bool.not_eq_false] at hb7_3
      refine SQ.nil ?_
      refine C.code ?_
      refine W.cond_f rfl ?_
      refine W.skip ?_
      refine C.code ?_
      refine W.seq ?_
      refine W.region ?_
      refine SQ.op rfl rfl rfl (r_assign rfl rfl) ?_
      refine SQ.nil ?_
      refine C.code ?_
      refine W.ret ?_
      refine C.ret1 Tryd.results24 rfl ?_
      refine ⟨ret_int ?_, hEw⟩
      first
        | (rw [signLen_two [60, 61] (by simp [signs2]) (by assumption)]; rfl)
        | (rw [signLen_two [61, 61] (by simp [signs2]) (by assumption)]; rfl)
        | (rw [signLen_two [33, 61] (by simp [signs2]) (by assumption)]; rfl)
        | (rw [signLen_two [45, 62] (by simp [signs2]) (by assumption)]; rfl)
        | (rw [signLen_not (fun p hp => by
              obtain ⟨j, hj⟩ := List.getElem?_of_mem hp
              exact hno j p (by have := (List.getElem?_eq_some_iff.1 hj).1; simp [signs2] at this; omega) hj)]
           first | rw [if_pos (by assumption)] | rw [if_neg (by assumption)]
           rfl)

/-- belfry.tokens.silent -/
theorem silent_spec (s : ByteArray) (hs : s.size ≤ 1000000000000) (w : World) :
    Calls Tryd.prog 25 #[.string s] w fun e w' => e = .returned (.int .i64 (silentLen s : Nat)) ∧ Ext w w' := by
  refine calls_of Tryd.func25 rfl Tryd.ntmps25 rfl ?_
  have hEw := Kp.refl (fun _ => False) w
  refine W.seq ?_
  refine W.region ?_
  refine SQ.op rfl rfl rfl (r_assign rfl rfl) ?_
  refine SQ.nil ?_
  refine C.code ?_
  refine W.seq ?_
  refine W.region ?_
  refine SQ.op rfl rfl rfl (r_move rfl rfl) ?_
  have hsz1 := hEw.size
  refine SQ.call rfl rfl rfl (rc_func rfl rfl Tryd.call38) (of_below (Any.strings_TrimLeft_laid Tryd.lays161 (by kernel_rfl) s ⟨#[32, 9, 10, 13]⟩ _ (by decide) (ascii_of_all (by decide)))) ?_
  rintro _ wv2 ⟨rfl, hE3⟩
  refine ⟨_, rfl, ?_⟩
  replace hEw := hEw.ext hE3
  generalize hr : (ByteArray.mk (List.toArray (Lib.trimLeftS s.data.toList (ByteArray.mk #[32, 9, 10, 13]).data.toList))) = r
  have hrl : r.data.toList = Lib.trimLeftS s.data.toList blanks := by rw [← hr]; exact data_mk _
  have hrs : r.size ≤ s.size := by rw [size_list, size_list, hrl]; exact trimLeft_le _ _
  clear hr
  refine SQ.op rfl rfl rfl (r_assign rfl rfl) ?_
  refine SQ.nil ?_
  refine C.code ?_
  refine W.seq ?_
  refine W.seq ?_
  refine W.region ?_
  refine SQ.op rfl rfl rfl (r_move rfl rfl) ?_
  have hsz4 := hEw.size
  refine SQ.call rfl rfl rfl (rc_func rfl rfl Tryd.call36) (of_same (Tryd.strings_HasPrefix _ _ _)) ?_
  rintro _ wv5 ⟨rfl, hE6⟩
  refine ⟨_, rfl, ?_⟩
  replace hEw := hEw.ext hE6
  refine SQ.nil ?_
  refine C.code ?_
  refine W.cond rfl ?_ ?_
  · intro hc7
    try simp only [decide_eq_true_eq, decide_eq_false_iff_not, Bool.not_eq_true', Bool.not_eq_false', Bool.not_true, Bool.not_false, Bool.not_eq_true, Bool.not_eq_false] at hc7
    refine W.seq ?_
    refine W.region ?_
    refine SQ.op rfl rfl rfl (r_move rfl rfl) ?_
    have hsz8 := hEw.size
    refine SQ.call rfl rfl rfl (rc_func rfl rfl Tryd.call37) (of_same (Tryd.strings_IndexByte _ _ _)) ?_
    rintro _ wv9 ⟨rfl, hE10⟩
    refine ⟨_, rfl, ?_⟩
    replace hEw := hEw.ext hE10
    have hib := indexByte_le r.data.toList 10
    rw [← size_list] at hib
    generalize hi : Lib.indexByte r.data.toList (Int.toNat 10).toUInt8 = i
    replace hi : Lib.indexByte r.data.toList 10 = i := hi
    rw [hi] at hib
    refine SQ.op rfl rfl rfl (r_assign rfl rfl) ?_
    refine SQ.nil ?_
    refine C.code ?_
    refine W.seq ?_
    refine W.seq ?_
    refine W.region ?_
    refine SQ.op rfl rfl rfl (r_move rfl rfl) ?_
    refine SQ.op rfl rfl rfl (r_lss rfl rfl rfl) ?_
    refine SQ.nil ?_
    refine C.code ?_
    refine W.cond rfl ?_ ?_
    · intro hc11
      try simp only [decide_eq_true_eq, decide_eq_false_iff_not, Bool.not_eq_true', Bool.not_eq_false', Bool.not_true, Bool.not_false, Bool.not_eq_true, Bool.not_eq_false] at hc11
      refine W.region ?_
      refine SQ.op rfl rfl rfl (r_move rfl rfl) ?_
      refine SQ.op rfl rfl rfl (r_lenStr rfl rfl Tryd.underlying9) ?_
      refine SQ.op rfl rfl rfl (r_assign rfl rfl) ?_
      refine SQ.nil ?_
      refine C.code ?_
      refine W.region ?_
      refine SQ.op rfl rfl rfl (r_move rfl rfl) ?_
      refine SQ.op rfl rfl rfl (r_move rfl rfl) ?_
      refine SQ.op rfl rfl rfl (r_sliceStr rfl rfl Tryd.underlying9 (.inr ⟨_, _, _, rfl, rfl, (by first | rfl | exact (Int.toNat_of_nonneg (by omega)).symm)⟩) (.inl ⟨rfl, rfl⟩) (by omega) (by omega)) ?_
      generalize hx : r.extract _ r.size = x
      have hxl : x.data.toList = behind s.data.toList := by
        rw [← hx, drop_extract, behind_pos hrl (by assumption), hi]
        first | rw [if_pos (by assumption)] | rw [if_neg (by assumption)]
        all_goals (try (first | rfl | (rw [size_list]; simp)))
      have hxs : x.size ≤ r.size := by rw [← hx, size_list, drop_extract, size_list]; simp
      refine SQ.op rfl rfl rfl (r_assign rfl rfl) ?_
      refine SQ.nil ?_
      refine C.code ?_
      refine W.seq ?_
      refine W.region ?_
      refine SQ.op rfl rfl rfl (r_move rfl rfl) ?_
      refine SQ.op rfl rfl rfl (r_lenStr rfl rfl Tryd.underlying9) ?_
      refine SQ.op rfl rfl rfl (r_move rfl rfl) ?_
      refine SQ.op rfl rfl rfl (r_lenStr rfl rfl Tryd.underlying9) ?_
      refine SQ.op rfl rfl rfl (r_sub rfl rfl rfl (w64 (by omega))) ?_
      refine SQ.op rfl rfl rfl (r_assign rfl rfl) ?_
      refine SQ.nil ?_
      refine C.code ?_
      refine W.ret ?_
      refine C.ret1 Tryd.results25 rfl ?_
      have hrx : r.size = r.data.toList.length := size_list r
      first
        | (have hxx : x.size = x.data.toList.length := size_list x
           refine ⟨ret_int ?_, hEw⟩; unfold silentLen; rw [← hxl, ← hxx]; omega)
        | (refine ⟨ret_int ?_, hEw⟩; unfold silentLen; rw [behind_neg hrl (by assumption), ← hrx]; omega)
    · intro hc11
      try simp only [decide_eq_true_eq, decide_eq_false_iff_not, Bool.not_eq_true', Bool.not_eq_false', Bool.not_true, Bool.not_false, Bool.not_eq_true, Bool.not_eq_false] at hc11
      refine W.skip ?_
      refine C.code ?_
      refine W.region ?_
      refine SQ.op rfl rfl rfl (r_move rfl rfl) ?_
      refine SQ.op rfl rfl rfl (r_move rfl rfl) ?_
      refine SQ.op rfl rfl rfl (r_sliceStr rfl rfl Tryd.underlying9 (.inr ⟨_, _, _, rfl, rfl, (by first | rfl | exact (Int.toNat_of_nonneg (by omega)).symm)⟩) (.inl ⟨rfl, rfl⟩) (by omega) (by omega)) ?_
      generalize hx : r.extract _ r.size = x
      have hxl : x.data.toList = behind s.data.toList := by
        rw [← hx, drop_extract, behind_pos hrl (by assumption), hi]
        first | rw [if_pos (by assumption)] | rw [if_neg (by assumption)]
        all_goals (try (first | rfl | (rw [size_list]; simp)))
      have hxs : x.size ≤ r.size := by rw [← hx, size_list, drop_extract, size_list]; simp
      refine SQ.op rfl rfl rfl (r_assign rfl rfl) ?_
      refine SQ.nil ?_
      refine C.code ?_
      refine W.seq ?_
      refine W.region ?_
      refine SQ.op rfl rfl rfl (r_move rfl rfl) ?_
      refine SQ.op rfl rfl rfl (r_lenStr rfl rfl Tryd.underlying9) ?_
      refine SQ.op rfl rfl rfl (r_move rfl rfl) ?_
      refine SQ.op rfl rfl rfl (r_lenStr rfl rfl Tryd.underlying9) ?_
      refine SQ.op rfl rfl rfl (r_sub rfl rfl rfl (w64 (by omega))) ?_
      refine SQ.op rfl rfl rfl (r_assign rfl rfl) ?_
      refine SQ.nil ?_
      refine C.code ?_
      refine W.ret ?_
      refine C.ret1 Tryd.results25 rfl ?_
      have hrx : r.size = r.data.toList.length := size_list r
      first
        | (have hxx : x.size = x.data.toList.length := size_list x
           refine ⟨ret_int ?_, hEw⟩; unfold silentLen; rw [← hxl, ← hxx]; omega)
        | (refine ⟨ret_int ?_, hEw⟩; unfold silentLen; rw [behind_neg hrl (by assumption), ← hrx]; omega)
  · intro hc7
    try simp only [decide_eq_true_eq, decide_eq_false_iff_not, Bool.not_eq_true', Bool.not_eq_false', Bool.not_true, Bool.not_false, Bool.not_eq_true, Bool.not_eq_false] at hc7
    refine W.skip ?_
    refine C.code ?_
    refine W.seq ?_
    refine W.region ?_
    refine SQ.op rfl rfl rfl (r_move rfl rfl) ?_
    refine SQ.op rfl rfl rfl (r_lenStr rfl rfl Tryd.underlying9) ?_
    refine SQ.op rfl rfl rfl (r_move rfl rfl) ?_
    refine SQ.op rfl rfl rfl (r_lenStr rfl rfl Tryd.underlying9) ?_
    refine SQ.op rfl rfl rfl (r_sub rfl rfl rfl (w64 (by omega))) ?_
    refine SQ.op rfl rfl rfl (r_assign rfl rfl) ?_
    refine SQ.nil ?_
    refine C.code ?_
    refine W.ret ?_
    refine C.ret1 Tryd.results25 rfl ?_
    have hrx : r.size = r.data.toList.length := size_list r
    first
      | (have hxx : x.size = x.data.toList.length := size_list x
         refine ⟨ret_int ?_, hEw⟩; unfold silentLen; rw [← hxl, ← hxx]; omega)
      | (refine ⟨ret_int ?_, hEw⟩; unfold silentLen; rw [behind_neg hrl (by assumption), ← hrx]; omega)

/-- belfry.tokens.words -/
theorem words_spec (w : World) :
    Calls Tryd.prog 62 #[] w fun e w' => ∃ b, e = .returned (.slice (some ⟨b, 0, none⟩) 17 17) ∧ Blk w' b (wordsL.map .string) 9 ∧ w.heap.size ≤ b ∧ Ext w w' := by
  refine calls_of Tryd.func62 rfl Tryd.ntmps62 rfl ?_
  have hEw := Kp.refl (fun _ => False) w
  refine W.seq ?_
  refine W.region ?_
  refine SQ.op rfl rfl rfl (r_assign rfl rfl) ?_
  refine SQ.nil ?_
  refine C.code ?_
  refine W.seq ?_
  refine W.region ?_
  have hsz5 := hEw.size
  refine SQ.new (v := (fun nb => .slice (some ⟨nb, 0, none⟩) 17 17)) rfl rfl rfl (r_buildSlice rfl rfl Tryd.underlying50 Tryd.sizeOf9 Tryd.zeroValue9 rfl rfl rfl rfl rfl) ?_
  intro nb1 wv1 hge2 hlt3 hB1 hE4
  replace hEw := hEw.ext hE4
  replace hB1 : Blk wv1 nb1 _ _ := hB1
  refine SQ.op rfl rfl rfl (r_assign rfl rfl) ?_
  refine SQ.nil ?_
  refine C.code ?_
  refine W.ret ?_
  refine C.ret1 Tryd.results62 rfl ?_
  exact ⟨_, rfl, hB1, hge2, hEw⟩

/-- belfry.tokens.Name -/
theorem Name_spec (s : ByteArray) (hs : s.size ≤ 1000000000000) (w : World) :
    Calls Tryd.prog 45 #[.string s] w fun e w' => e = .returned (.bool (nameB s)) ∧ Ext w w' := by
  refine calls_of Tryd.func45 rfl Tryd.ntmps45 rfl ?_
  have hEw := Kp.refl (fun _ => False) w
  refine W.seq ?_
  refine W.region ?_
  refine SQ.op rfl rfl rfl (r_assign rfl rfl) ?_
  refine SQ.nil ?_
  refine C.code ?_
  refine W.seq ?_
  refine W.region ?_
  refine SQ.op rfl rfl rfl (r_move rfl rfl) ?_
  refine SQ.op rfl rfl rfl (r_neqStr rfl rfl rfl) ?_
  refine SQ.opB rfl rfl rfl (r_move rfl rfl) ?_ ?_
  · intro hb1_2
    try simp only [decide_eq_true_eq, decide_eq_false_iff_not, Bool.not_eq_true', Bool.not_eq_false', Bool.not_true, Bool.not_false, Bool.not_eq_true, Bool.not_eq_false] at hb1_2
    refine SQ.guarded rfl rfl rfl rfl rfl ?_
    refine SQ.op rfl rfl rfl (r_move rfl rfl) ?_
    refine SQ.guarded rfl rfl rfl rfl rfl ?_
    refine SQ.op rfl rfl rfl (r_lenStr rfl rfl Tryd.underlying9) ?_
    refine SQ.guarded rfl rfl rfl rfl rfl ?_
    refine SQ.op rfl rfl rfl (r_leq rfl rfl rfl) ?_
    refine SQ.op rfl rfl rfl (r_pick_t rfl rfl rfl) ?_
    refine SQ.opB rfl rfl rfl (r_move rfl rfl) ?_ ?_
    · intro hb1_7
      try simp only [decide_eq_true_eq, decide_eq_false_iff_not, Bool.not_eq_true', Bool.not_eq_false', Bool.not_true, Bool.not_false, Bool.not_eq_true, Bool.not_eq_false] at hb1_7
      refine SQ.guarded rfl rfl rfl rfl rfl ?_
      refine SQ.op rfl rfl rfl (r_move rfl rfl) ?_
      refine SQ.guarded rfl rfl rfl rfl rfl ?_
      have hsz1 := hEw.size
      refine SQ.call rfl rfl rfl (rc_func rfl rfl Tryd.call22) (ofWord_run s hs _) ?_
      rintro _ wv2 ⟨rfl, hE3⟩
      refine ⟨_, rfl, ?_⟩
      replace hEw := hEw.ext hE3
      rw [show runFrom s wordB (s.size + 1) 0 = wordLen s from rfl]
      refine SQ.guarded rfl rfl rfl rfl rfl ?_
      refine SQ.op rfl rfl rfl (r_move rfl rfl) ?_
      refine SQ.guarded rfl rfl rfl rfl rfl ?_
      refine SQ.op rfl rfl rfl (r_lenStr rfl rfl Tryd.underlying9) ?_
      refine SQ.guarded rfl rfl rfl rfl rfl ?_
      refine SQ.op rfl rfl rfl (r_eqlInt rfl rfl rfl) ?_
      refine SQ.op rfl rfl rfl (r_pick_t rfl rfl rfl) ?_
      refine SQ.opB rfl rfl rfl (r_move rfl rfl) ?_ ?_
      · intro hb1_14
        try simp only [decide_eq_true_eq, decide_eq_false_iff_not, Bool.not_eq_true', Bool.not_eq_false', Bool.not_true, Bool.not_false, Bool.not_eq_true, Bool.not_eq_false] at hb1_14
        refine SQ.guarded rfl rfl rfl rfl rfl ?_
        have hsz4 := hEw.size
        refine SQ.call rfl rfl rfl (rc_func rfl rfl Tryd.call62) (words_spec _) ?_
        rintro _ wv5 ⟨bw, rfl, hW, hgw, hE6⟩
        refine ⟨_, rfl, ?_⟩
        replace hEw := hEw.ext hE6
        refine SQ.guarded rfl rfl rfl rfl rfl ?_
        refine SQ.op rfl rfl rfl (r_move rfl rfl) ?_
        refine SQ.guarded rfl rfl rfl rfl rfl ?_
        have hsz7 := hEw.size
        refine SQ.call rfl rfl rfl (rc_func rfl rfl Tryd.call61) (of_same (Tryd.slices_Contains_string bw 0 17 17 wordsL s _ (by decide) (by decide) (wordsCells hW))) ?_
        rintro _ wv8 ⟨rfl, hE9⟩
        refine ⟨_, rfl, ?_⟩
        replace hW := hW.ext hE9
        replace hEw := hEw.ext hE9
        rw [show List.take 17 wordsL = wordsL from rfl]
        refine SQ.guarded rfl rfl rfl rfl rfl ?_
        refine SQ.op rfl rfl rfl (r_not rfl rfl) ?_
        refine SQ.op rfl rfl rfl (r_pick_t rfl rfl rfl) ?_
        refine SQ.op rfl rfl rfl (r_assign rfl rfl) ?_
        refine SQ.nil ?_
        refine C.code ?_
        refine W.ret ?_
        refine C.ret1 Tryd.results45 rfl ?_
        refine ⟨?_, hEw⟩
        first | rfl | (congr 2; rw [Bool.eq_iff_iff]; first | (simp [nameB, *]; done) | (simp [nameB, *]; omega) | (simp [nameB]; omega))
      · intro hb1_14
        try simp only [decide_eq_true_eq, decide_eq_false_iff_not, Bool.not_eq_true', Bool.not_eq_false', Bool.not_true, Bool.not_false, Bool.not_eq_true, Bool.not_eq_false] at hb1_14
        refine SQ.skip rfl rfl rfl rfl rfl rfl rfl ?_
        refine SQ.skip rfl rfl rfl rfl rfl rfl rfl ?_
        refine SQ.skip rfl rfl rfl rfl rfl rfl rfl ?_
        refine SQ.skip rfl rfl rfl rfl rfl rfl rfl ?_
        refine SQ.op rfl rfl rfl (r_pick_f rfl rfl rfl) ?_
        refine SQ.op rfl rfl rfl (r_assign rfl rfl) ?_
        refine SQ.nil ?_
        refine C.code ?_
        refine W.ret ?_
        refine C.ret1 Tryd.results45 rfl ?_
        refine ⟨?_, hEw⟩
        first | rfl | (congr 2; rw [Bool.eq_iff_iff]; first | (simp [nameB, *]; done) | (simp [nameB, *]; omega) | (simp [nameB]; omega))
    · intro hb1_7
      try simp only [decide_eq_true_eq, decide_eq_false_iff_not, Bool.not_eq_true', Bool.not_eq_false', Bool.not_true, Bool.not_false, Bool.not_eq_true, Bool.not_eq_false] at hb1_7
      refine SQ.skip rfl rfl rfl rfl rfl rfl rfl ?_
      refine SQ.skip rfl rfl rfl rfl rfl rfl rfl ?_
      refine SQ.skip rfl rfl rfl rfl rfl rfl rfl ?_
      refine SQ.skip rfl rfl rfl rfl rfl rfl rfl ?_
      refine SQ.skip rfl rfl rfl rfl rfl rfl rfl ?_
      refine SQ.op rfl rfl rfl (r_pick_f rfl rfl rfl) ?_
      refine SQ.op rfl rfl rfl (r_move rfl rfl) ?_
      refine SQ.skip rfl rfl rfl rfl rfl rfl rfl ?_
      refine SQ.skip rfl rfl rfl rfl rfl rfl rfl ?_
      refine SQ.skip rfl rfl rfl rfl rfl rfl rfl ?_
      refine SQ.skip rfl rfl rfl rfl rfl rfl rfl ?_
      refine SQ.op rfl rfl rfl (r_pick_f rfl rfl rfl) ?_
      refine SQ.op rfl rfl rfl (r_assign rfl rfl) ?_
      refine SQ.nil ?_
      refine C.code ?_
      refine W.ret ?_
      refine C.ret1 Tryd.results45 rfl ?_
      refine ⟨?_, hEw⟩
      first | rfl | (congr 2; rw [Bool.eq_iff_iff]; first | (simp [nameB, *]; done) | (simp [nameB, *]; omega) | (simp [nameB]; omega))
  · intro hb1_2
    try simp only [decide_eq_true_eq, decide_eq_false_iff_not, Bool.not_eq_true', Bool.not_eq_false', Bool.not_true, Bool.not_false, Bool.not_eq_true, Bool.not_eq_false] at hb1_2
    refine SQ.skip rfl rfl rfl rfl rfl rfl rfl ?_
    refine SQ.skip rfl rfl rfl rfl rfl rfl rfl ?_
    refine SQ.skip rfl rfl rfl rfl rfl rfl rfl ?_
    refine SQ.op rfl rfl rfl (r_pick_f rfl rfl rfl) ?_
    refine SQ.op rfl rfl rfl (r_move rfl rfl) ?_
    refine SQ.skip rfl rfl rfl rfl rfl rfl rfl ?_
    refine SQ.skip rfl rfl rfl rfl rfl rfl rfl ?_
    refine SQ.skip rfl rfl rfl rfl rfl rfl rfl ?_
    refine SQ.skip rfl rfl rfl rfl rfl rfl rfl ?_
    refine SQ.skip rfl rfl rfl rfl rfl rfl rfl ?_
    refine SQ.op rfl rfl rfl (r_pick_f rfl rfl rfl) ?_
    refine SQ.op rfl rfl rfl (r_move rfl rfl) ?_
    refine SQ.skip rfl rfl rfl rfl rfl rfl rfl ?_
    refine SQ.skip rfl rfl rfl rfl rfl rfl rfl ?_
    refine SQ.skip rfl rfl rfl rfl rfl rfl rfl ?_
    refine SQ.skip rfl rfl rfl rfl rfl rfl rfl ?_
    refine SQ.op rfl rfl rfl (r_pick_f rfl rfl rfl) ?_
    refine SQ.op rfl rfl rfl (r_assign rfl rfl) ?_
    refine SQ.nil ?_
    refine C.code ?_
    refine W.ret ?_
    refine C.ret1 Tryd.results45 rfl ?_
    refine ⟨?_, hEw⟩
    first | rfl | (congr 2; rw [Bool.eq_iff_iff]; first | (simp [nameB, *]; done) | (simp [nameB, *]; omega) | (simp [nameB]; omega))

/-- belfry.tokens.Number -/
theorem Number_spec (s : ByteArray) (hs : s.size ≤ 1000000000000) (w : World) (hG : Gl w) :
    Calls Tryd.prog 70 #[.string s] w fun e w' => e = .returned (.tuple #[.int .i64 (numberR s).1, .int .i64 (numberR s).2]) ∧ Ext w w' := by
  refine calls_of Tryd.func70 rfl Tryd.ntmps70 rfl ?_
  have hEw := Kp.refl (fun _ => False) w
  refine W.seq ?_
  refine W.region ?_
  refine SQ.op rfl rfl rfl (r_assign rfl rfl) ?_
  refine SQ.op rfl rfl rfl (r_assign rfl rfl) ?_
  refine SQ.nil ?_
  refine C.code ?_
  refine W.seq ?_
  refine W.seq ?_
  refine W.region ?_
  refine SQ.op rfl rfl rfl (r_move rfl rfl) ?_
  refine SQ.op rfl rfl rfl (r_eqlStr rfl rfl rfl) ?_
  refine SQ.opB rfl rfl rfl (r_move rfl rfl) ?_ ?_
  · intro hb1_2
    try simp only [decide_eq_true_eq, decide_eq_false_iff_not, Bool.not_eq_true', Bool.not_eq_false', Bool.not_true, Bool.not_false, Bool.not_eq_true, Bool.not_eq_false] at hb1_2
    refine SQ.skip rfl rfl rfl rfl rfl rfl rfl ?_
    refine SQ.skip rfl rfl rfl rfl rfl rfl rfl ?_
    refine SQ.skip rfl rfl rfl rfl rfl rfl rfl ?_
    refine SQ.skip rfl rfl rfl rfl rfl rfl rfl ?_
    refine SQ.skip rfl rfl rfl rfl rfl rfl rfl ?_
    refine SQ.op rfl rfl rfl (r_pick_t rfl rfl rfl) ?_
    refine SQ.nil ?_
    refine C.code ?_
    refine W.cond_t rfl ?_
    refine W.seq ?_
    refine W.region ?_
    refine SQ.op rfl rfl rfl (r_assign rfl rfl) ?_
    refine SQ.op rfl rfl rfl (r_assign rfl rfl) ?_
    refine SQ.nil ?_
    refine C.code ?_
    refine W.ret ?_
    refine C.ret2 Tryd.results70 rfl rfl ?_
    refine ⟨?_, hEw⟩
    first
      | (rw [numberR_odd (.inl (by assumption))])
      | (rw [numberR_odd (.inr (by omega))])
      | (rw [numberR_ok (by assumption) (by omega)]; simp only [hp])
  · intro hb1_2
    try simp only [decide_eq_true_eq, decide_eq_false_iff_not, Bool.not_eq_true', Bool.not_eq_false', Bool.not_true, Bool.not_false, Bool.not_eq_true, Bool.not_eq_false] at hb1_2
    refine SQ.guarded rfl rfl rfl rfl rfl ?_
    refine SQ.op rfl rfl rfl (r_move rfl rfl) ?_
    refine SQ.guarded rfl rfl rfl rfl rfl ?_
    have hsz1 := hEw.size
    refine SQ.call rfl rfl rfl (rc_func rfl rfl Tryd.call23) (ofNumber_spec s hs _) ?_
    rintro _ wv2 ⟨rfl, hE3⟩
    refine ⟨_, rfl, ?_⟩
    replace hG := hG.ext hE3
    replace hEw := hEw.ext hE3
    refine SQ.guarded rfl rfl rfl rfl rfl ?_
    refine SQ.op rfl rfl rfl (r_move rfl rfl) ?_
    refine SQ.guarded rfl rfl rfl rfl rfl ?_
    refine SQ.op rfl rfl rfl (r_lenStr rfl rfl Tryd.underlying9) ?_
    refine SQ.guarded rfl rfl rfl rfl rfl ?_
    refine SQ.op rfl rfl rfl (r_neqInt rfl rfl rfl) ?_
    refine SQ.op rfl rfl rfl (r_pick_f rfl rfl rfl) ?_
    refine SQ.nil ?_
    refine C.code ?_
    refine W.cond rfl ?_ ?_
    · intro hc4
      try simp only [decide_eq_true_eq, decide_eq_false_iff_not, Bool.not_eq_true', Bool.not_eq_false', Bool.not_true, Bool.not_false, Bool.not_eq_true, Bool.not_eq_false] at hc4
      refine W.seq ?_
      refine W.region ?_
      refine SQ.op rfl rfl rfl (r_assign rfl rfl) ?_
      refine SQ.op rfl rfl rfl (r_assign rfl rfl) ?_
      refine SQ.nil ?_
      refine C.code ?_
      refine W.ret ?_
      refine C.ret2 Tryd.results70 rfl rfl ?_
      refine ⟨?_, hEw⟩
      first
        | (rw [numberR_odd (.inl (by assumption))])
        | (rw [numberR_odd (.inr (by omega))])
        | (rw [numberR_ok (by assumption) (by omega)]; simp only [hp])
    · intro hc4
      try simp only [decide_eq_true_eq, decide_eq_false_iff_not, Bool.not_eq_true', Bool.not_eq_false', Bool.not_true, Bool.not_false, Bool.not_eq_true, Bool.not_eq_false] at hc4
      refine W.skip ?_
      refine C.code ?_
      refine W.seq ?_
      refine W.region ?_
      refine SQ.op rfl rfl rfl (r_move rfl rfl) ?_
      rcases hp : Lib.parseIntB 64 s.data.toList with v | _ | _
      · refine SQ.call rfl rfl rfl (rc_func rfl rfl Tryd.call78) (Tryd.strconv_ParseInt_10_at64_ok s (by omega) v hp _) ?_
        rintro _ w9 ⟨rfl, hPw⟩
        have hEp : Ext wv2 w9 := by
          rcases hPw with rfl | ⟨t, rfl⟩
          · exact Kp.refl _ _
          · exact ext_bytes _ _ _
        refine ⟨_, rfl, ?_⟩
        replace hG := hG.ext hEp
        replace hEw := hEw.ext hEp
        refine SQ.op rfl rfl rfl (r_move rfl rfl) ?_
        refine SQ.op rfl rfl rfl (r_extract rfl rfl rfl) ?_
        refine SQ.op rfl rfl rfl (r_extract rfl rfl rfl) ?_
        refine SQ.op rfl rfl rfl (r_assign rfl rfl) ?_
        refine SQ.op rfl rfl rfl (r_assign rfl rfl) ?_
        refine SQ.nil ?_
        refine C.code ?_
        refine W.seq ?_
        refine W.seq ?_
        refine W.region ?_
        refine SQ.op rfl rfl rfl (r_move rfl rfl) ?_
        refine SQ.opD false rfl rfl rfl (r_neqNil rfl rfl Tryd.underlying130 rfl) rfl ?_
        refine SQ.nil ?_
        refine C.code ?_
        refine W.cond_f rfl ?_
        refine W.skip ?_
        refine C.code ?_
        refine W.seq ?_
        refine W.region ?_
        refine SQ.op rfl rfl rfl (r_move rfl rfl) ?_
        refine SQ.op rfl rfl rfl (r_assign rfl rfl) ?_
        refine SQ.op rfl rfl rfl (r_assign rfl rfl) ?_
        refine SQ.nil ?_
        refine C.code ?_
        refine W.ret ?_
        refine C.ret2 Tryd.results70 rfl rfl ?_
        refine ⟨?_, hEw⟩
        first
          | (rw [numberR_odd (.inl (by assumption))])
          | (rw [numberR_odd (.inr (by omega))])
          | (rw [numberR_ok (by assumption) (by omega)]; simp only [hp])
      · refine SQ.call rfl rfl rfl (rc_func rfl rfl Tryd.call78) (Tryd.strconv_ParseInt_10_at64_syntax_var s (by omega) (by rw [hp]) _ _ _ (hG.syn.choose_spec.choose_spec)) ?_
        rintro _ w9 ⟨N, rfl, _, _, hPw⟩
        have hEp := Ext.of_below hPw
        refine ⟨_, rfl, ?_⟩
        replace hG := hG.ext hEp
        replace hEw := hEw.ext hEp
        refine SQ.op rfl rfl rfl (r_move rfl rfl) ?_
        refine SQ.op rfl rfl rfl (r_extract rfl rfl rfl) ?_
        refine SQ.op rfl rfl rfl (r_extract rfl rfl rfl) ?_
        refine SQ.op rfl rfl rfl (r_assign rfl rfl) ?_
        refine SQ.op rfl rfl rfl (r_assign rfl rfl) ?_
        refine SQ.nil ?_
        refine C.code ?_
        refine W.seq ?_
        refine W.seq ?_
        refine W.region ?_
        refine SQ.op rfl rfl rfl (r_move rfl rfl) ?_
        refine SQ.opD true rfl rfl rfl (r_neqNil rfl rfl Tryd.underlying130 rfl) rfl ?_
        refine SQ.nil ?_
        refine C.code ?_
        refine W.cond_t rfl ?_
        refine W.seq ?_
        refine W.region ?_
        refine SQ.op rfl rfl rfl (r_assign rfl rfl) ?_
        refine SQ.op rfl rfl rfl (r_assign rfl rfl) ?_
        refine SQ.nil ?_
        refine C.code ?_
        refine W.ret ?_
        refine C.ret2 Tryd.results70 rfl rfl ?_
        refine ⟨?_, hEw⟩
        first
          | (rw [numberR_odd (.inl (by assumption))])
          | (rw [numberR_odd (.inr (by omega))])
          | (rw [numberR_ok (by assumption) (by omega)]; simp only [hp])
      · refine SQ.call rfl rfl rfl (rc_func rfl rfl Tryd.call78) (Tryd.strconv_ParseInt_10_at64_range_var s (by omega) hp _ _ _ (hG.rng.choose_spec.choose_spec)) ?_
        rintro _ w9 ⟨N, rfl, _, _, hPw⟩
        have hEp := Ext.of_below hPw
        refine ⟨_, rfl, ?_⟩
        replace hG := hG.ext hEp
        replace hEw := hEw.ext hEp
        refine SQ.op rfl rfl rfl (r_move rfl rfl) ?_
        refine SQ.op rfl rfl rfl (r_extract rfl rfl rfl) ?_
        refine SQ.op rfl rfl rfl (r_extract rfl rfl rfl) ?_
        refine SQ.op rfl rfl rfl (r_assign rfl rfl) ?_
        refine SQ.op rfl rfl rfl (r_assign rfl rfl) ?_
        refine SQ.nil ?_
        refine C.code ?_
        refine W.seq ?_
        refine W.seq ?_
        refine W.region ?_
        refine SQ.op rfl rfl rfl (r_move rfl rfl) ?_
        refine SQ.opD true rfl rfl rfl (r_neqNil rfl rfl Tryd.underlying130 rfl) rfl ?_
        refine SQ.nil ?_
        refine C.code ?_
        refine W.cond_t rfl ?_
        refine W.seq ?_
        refine W.region ?_
        refine SQ.op rfl rfl rfl (r_assign rfl rfl) ?_
        refine SQ.op rfl rfl rfl (r_assign rfl rfl) ?_
        refine SQ.nil ?_
        refine C.code ?_
        refine W.ret ?_
        refine C.ret2 Tryd.results70 rfl rfl ?_
        refine ⟨?_, hEw⟩
        first
          | (rw [numberR_odd (.inl (by assumption))])
          | (rw [numberR_odd (.inr (by omega))])
          | (rw [numberR_ok (by assumption) (by omega)]; simp only [hp])

/-- belfry.tokens.Read -/
theorem Read_spec (s : ByteArray) (hs : s.size ≤ 1000000000000) (w : World) :
    Calls Tryd.prog 13 #[.string s] w fun e w' => ∃ v, e = .returned (.tuple #[v, .int .i64 ((readR s).2.1 : Nat), .int .i64 (readR s).2.2]) ∧ Ow w' w.heap.size 57 3 v (readR s).1.length (encs (readR s).1) ∧ Ext w w' := by
  refine calls_of Tryd.func13 rfl Tryd.ntmps13 rfl ?_
  have hEw := Kp.refl (fun _ => False) w
  refine W.seq ?_
  refine W.region ?_
  refine SQ.op rfl rfl rfl (r_assign rfl rfl) ?_
  refine SQ.op rfl rfl rfl (r_assign rfl rfl) ?_
  refine SQ.op rfl rfl rfl (r_assign rfl rfl) ?_
  refine SQ.nil ?_
  refine C.code ?_
  refine W.scope ?_
  refine W.seq ?_
  refine W.seq ?_
  refine W.region ?_
  refine SQ.op rfl rfl rfl (r_move rfl rfl) ?_
  refine SQ.op rfl rfl rfl (r_lenStr rfl rfl Tryd.underlying9) ?_
  refine SQ.op rfl rfl rfl (r_gtr rfl rfl rfl) ?_
  refine SQ.nil ?_
  refine C.code ?_
  refine W.cond rfl ?_ ?_
  · intro hc1
    try simp only [decide_eq_true_eq, decide_eq_false_iff_not, Bool.not_eq_true', Bool.not_eq_false', Bool.not_true, Bool.not_false, Bool.not_eq_true, Bool.not_eq_false] at hc1
    refine W.seq ?_
    refine W.region ?_
    refine SQ.op rfl rfl rfl (r_assign rfl rfl) ?_
    refine SQ.op rfl rfl rfl (r_assign rfl rfl) ?_
    refine SQ.op rfl rfl rfl (r_assign rfl rfl) ?_
    refine SQ.nil ?_
    refine C.code ?_
    refine W.ret ?_
    refine C.ret3 Tryd.results13 rfl rfl rfl ?_
    have hr : readR s = ([], 0, 3) := by unfold readR; rw [if_pos (by omega)]
    rw [hr]; exact ⟨_, rfl, Ow.nil _ _ _ _, hEw⟩
  · intro hc1
    try simp only [decide_eq_true_eq, decide_eq_false_iff_not, Bool.not_eq_true', Bool.not_eq_false', Bool.not_true, Bool.not_false, Bool.not_eq_true, Bool.not_eq_false] at hc1
    refine W.skip ?_
    refine C.code ?_
    refine W.seq ?_
    refine W.region ?_
    refine SQ.op rfl rfl rfl (r_build (pl := [(0, 1), (1, 1)]) rfl rfl Tryd.underlying63 Tryd.zeroValue63 (fun _ => by kernel_rfl) rfl rfl) ?_
    refine SQ.op rfl rfl rfl (r_build (pl := [(0, 1), (1, 1)]) rfl rfl Tryd.underlying63 Tryd.zeroValue63 (fun _ => by kernel_rfl) rfl rfl) ?_
    refine SQ.op rfl rfl rfl (r_build (pl := [(0, 1), (1, 1)]) rfl rfl Tryd.underlying63 Tryd.zeroValue63 (fun _ => by kernel_rfl) rfl rfl) ?_
    refine SQ.op rfl rfl rfl (r_buildArr rfl rfl Tryd.underlying64 Tryd.zeroValue64 Tryd.sizeOf63 rfl) ?_
    have hsz6 := hEw.size
    refine SQ.new (v := (fun nb => .pointer (some ⟨nb, 0, none⟩))) rfl rfl rfl (r_alloc rfl Tryd.zeroValue64) ?_
    intro nb5 wv2 hge3 hlt4 hB5 hE5
    replace hEw := hEw.ext hE5
    replace hB5 : Blk wv2 nb5 _ _ := hB5
    refine SQ.storeA rfl rfl rfl rfl rfl Tryd.sizeOf64 rfl hB5 ⟨rfl, rfl⟩ ?_
    intro wv7 hS9 hK8
    have hsz10 := hK8.size
    replace hB5 : Blk wv7 _ _ _ := hS9
    clear hS9
    replace hEw := hEw.new hK8 (by intro b hb; subst hb; omega)
    refine SQ.nil ?_
    refine C.code ?_
    refine W.seq ?_
    refine W.label ?_
    refine C.code ?_
    refine W.seq ?_
    refine W.block ?_
    refine W.loop (α := Nat × Nat × List Tok × Value) (fun g => [(0, .string s), (2, g.2.2.2), (3, .int .i64 (g.1 : Int)), (5, .pointer (some ⟨nb5, 0, none⟩))]) (fun g w1 => Blk w1 nb5 [.int .u8 1, .func (.func 22) #[] #[], .int .u8 2, .func (.func 23) #[] #[], .int .u8 3, .func (.func 24) #[] #[]] 64 ∧ Ow w1 w.heap.size 57 3 g.2.2.2 g.2.2.1.length (encs g.2.2.1) ∧ Ext w w1 ∧ w.heap.size ≤ nb5 ∧ g.1 ≤ s.size ∧ g.2.2.1.length ≤ g.1 ∧ s.size < g.1 + g.2.1 ∧ readR s = readFrom s g.2.1 g.1 g.2.2.1) (fun g => s.size - g.1) (0, s.size + 1, [], .slice none 0 0) ⟨rfl, rfl, rfl, rfl, trivial⟩ ⟨hB5, Ow.nil _ _ _ _, hEw, by omega, by omega, by simp, by dsimp only; omega, by unfold readR; rw [if_neg (by omega)]⟩ ?_
    rintro ⟨at_, k, acc, v⟩ wl ⟨hB5, hO, hEw, hge5, hat, hacc, hk, hrun⟩
    dsimp only at hB5 hO hat hacc hk hrun ⊢
    have hrs := size_extract s at_ s.size hat (Nat.le_refl _)
    have hsl := silentLen_le (s.extract at_ s.size)
    refine W.seq ?_
    refine W.seq ?_
    refine W.region ?_
    refine SQ.op rfl rfl rfl (r_move rfl rfl) ?_
    refine SQ.op rfl rfl rfl (r_move rfl rfl) ?_
    refine SQ.op rfl rfl rfl (r_lenStr rfl rfl Tryd.underlying9) ?_
    refine SQ.op rfl rfl rfl (r_lss rfl rfl rfl) ?_
    refine SQ.nil ?_
    refine C.code ?_
    refine W.cond rfl ?_ ?_
    · intro hc11
      try simp only [decide_eq_true_eq, decide_eq_false_iff_not, Bool.not_eq_true', Bool.not_eq_false', Bool.not_true, Bool.not_false, Bool.not_eq_true, Bool.not_eq_false] at hc11
      refine W.skip ?_
      refine C.code ?_
      refine W.block ?_
      refine W.seq ?_
      refine W.seq ?_
      refine W.region ?_
      refine SQ.op rfl rfl rfl (r_move rfl rfl) ?_
      refine SQ.op rfl rfl rfl (r_move rfl rfl) ?_
      refine SQ.op rfl rfl rfl (r_sliceStr rfl rfl Tryd.underlying9 (.inr ⟨_, _, _, rfl, rfl, rfl⟩) (.inl ⟨rfl, rfl⟩) (by omega) (by omega)) ?_
      have hsz12 := hEw.size
      refine SQ.call rfl rfl rfl (rc_func rfl rfl Tryd.call25) (silent_spec _ (by omega) _) ?_
      rintro _ wv13 ⟨rfl, hE14⟩
      refine ⟨_, rfl, ?_⟩
      replace hB5 := hB5.ext hE14
      replace hO := hO.ext hE14
      replace hEw := hEw.ext hE14
      refine SQ.op rfl rfl rfl (r_assign rfl rfl) ?_
      refine SQ.nil ?_
      refine C.code ?_
      refine W.seq ?_
      refine W.region ?_
      refine SQ.op rfl rfl rfl (r_move rfl rfl) ?_
      refine SQ.op rfl rfl rfl (r_gtr rfl rfl rfl) ?_
      refine SQ.nil ?_
      refine C.code ?_
      refine W.cond rfl ?_ ?_
      · intro hc15
        try simp only [decide_eq_true_eq, decide_eq_false_iff_not, Bool.not_eq_true', Bool.not_eq_false', Bool.not_true, Bool.not_false, Bool.not_eq_true, Bool.not_eq_false] at hc15
        refine W.seq ?_
        refine W.region ?_
        refine SQ.op rfl rfl rfl (r_move rfl rfl) ?_
        refine SQ.op rfl rfl rfl (r_move rfl rfl) ?_
        refine SQ.op rfl rfl rfl (r_add rfl rfl rfl (w64 (by omega))) ?_
        refine SQ.op rfl rfl rfl (r_assign rfl rfl) ?_
        refine SQ.nil ?_
        refine C.code ?_
        refine W.exit rfl ?_
        obtain ⟨m, rfl⟩ : ∃ m, k = m + 1 := ⟨k - 1, by omega⟩
        refine C.round (at_ + silentLen (s.extract at_ s.size), m, acc, v) ⟨rfl, rfl, rfl, rfl, trivial⟩ ⟨hB5, hO, hEw, hge5, by dsimp only; omega, by dsimp only; omega, by dsimp only; omega, ?_⟩ (by dsimp only; omega)
        rw [hrun, readFrom, if_pos (by omega), if_pos (by omega)]
      · intro hc15
        try simp only [decide_eq_true_eq, decide_eq_false_iff_not, Bool.not_eq_true', Bool.not_eq_false', Bool.not_true, Bool.not_false, Bool.not_eq_true, Bool.not_eq_false] at hc15
        refine W.skip ?_
        refine C.code ?_
        refine W.seq ?_
        refine W.seq ?_
        refine W.region ?_
        refine SQ.op rfl rfl rfl (r_loadAgg rfl rfl Tryd.isAgg64 Tryd.sizeOf64 rfl (by first | exact hB5.cells | assumption)) ?_
        refine SQ.op rfl rfl rfl (r_move rfl rfl) ?_
        refine SQ.nil ?_
        refine C.code ?_
        refine W.block ?_
        refine W.loop (α := Nat) (fun i => [(0, .string s), (2, v), (3, .int .i64 (at_ : Int)), (5, .pointer (some ⟨nb5, 0, none⟩)), (30, .agg (List.toArray [.int .u8 1, .func (.func 22) #[] #[], .int .u8 2, .func (.func 23) #[] #[], .int .u8 3, .func (.func 24) #[] #[]])), (31, .int .i64 (i : Int))]) (fun i w1 => Blk w1 nb5 [.int .u8 1, .func (.func 22) #[] #[], .int .u8 2, .func (.func 23) #[] #[], .int .u8 3, .func (.func 24) #[] #[]] 64 ∧ Ow w1 w.heap.size 57 3 v acc.length (encs acc) ∧ Ext w w1 ∧ i ≤ 3 ∧ ∀ j, j < i → kindLen j (s.extract at_ s.size) = 0) (fun i => 3 - i) 0 ⟨rfl, rfl, rfl, rfl, rfl, rfl, trivial⟩ ⟨hB5, hO, hEw, by omega, fun j h => absurd h (by omega)⟩ ?_
        rintro i wi ⟨hB5, hO, hEw, hi3, hno⟩
        have hw := wordLen_le (s.extract at_ s.size)
        have hn := numLen_le (s.extract at_ s.size)
        have hsg := signLen_le (s := s.extract at_ s.size) (by omega)
        obtain rfl | rfl | rfl | rfl : i = 0 ∨ i = 1 ∨ i = 2 ∨ i = 3 := by omega
        · refine W.seq ?_
          refine W.region ?_
          refine SQ.opD true rfl rfl rfl (r_lss rfl rfl rfl) (by decide) ?_
          refine SQ.nil ?_
          refine C.code ?_
          refine W.seq ?_
          refine W.cond_t rfl ?_
          refine W.skip ?_
          refine C.code ?_
          refine W.seq ?_
          refine W.block ?_
          refine W.seq ?_
          refine W.region ?_
          refine SQ.op rfl rfl rfl (r_indexArrA rfl rfl rfl Tryd.underlying64 Tryd.sizeOf63 Tryd.isAgg63 rfl (by omega) rfl) ?_
          have hsz20 := hEw.size
          refine SQ.new (v := (fun nb => .pointer (some ⟨nb, 0, none⟩))) rfl rfl rfl (r_alloc rfl Tryd.zeroValue63) ?_
          intro nb8 wv16 hge17 hlt18 hB8 hE19
          have hlt_hB5_hB8 := Nat.lt_of_lt_of_le hB5.lt hge17
          replace hB5 := hB5.ext hE19
          replace hO := hO.ext hE19
          replace hEw := hEw.ext hE19
          replace hB8 : Blk wv16 nb8 _ _ := hB8
          refine SQ.storeA rfl rfl rfl rfl rfl Tryd.sizeOf63 rfl hB8 ⟨rfl, rfl⟩ ?_
          intro wv21 hS23 hK22
          have hsz24 := hK22.size
          replace hB5 := hB5.kp hK22 (by omega)
          replace hO := hO.kp hK22 (by first | (rintro _ rfl; exact hO.ne hB8 rfl) | (rintro _ rfl hq; have := hO.lt _ hq; omega))
          replace hB8 : Blk wv21 _ _ _ := hS23
          clear hS23
          replace hEw := hEw.new hK22 (by intro b hb; subst hb; omega)
          refine SQ.nil ?_
          refine C.code ?_
          refine W.seq ?_
          refine W.quiet mixed (by kernel_rfl) ?_
          refine QZ.op rfl rfl rfl (fun w' hE => r_fieldAddr rfl rfl Tryd.underlying63 rfl Tryd.sizeOf61 rfl) ?_
          refine QZ.op rfl rfl rfl (fun w' hE => r_load rfl rfl Tryd.isAgg61 (hE.cell (by first | exact hB8.cell rfl | exact hB5.cell rfl | assumption))) ?_
          refine QZ.op rfl rfl rfl (fun w' hE => r_move rfl rfl) ?_
          refine QZ.op rfl rfl rfl (fun w' hE => r_move rfl rfl) ?_
          refine QZ.op rfl rfl rfl (fun w' hE => r_sliceStr rfl rfl Tryd.underlying9 (.inr ⟨_, _, _, rfl, rfl, rfl⟩) (.inl ⟨rfl, rfl⟩) (by omega) (by omega)) ?_
          refine QZ.call rfl rfl rfl (fun w' hE => rc_value (fs := []) (cs := []) rfl rfl rfl Tryd.call22) (fun w' hE => hE.calls (ofWord_spec _ (by omega) _)) ?_
          refine QZ.op rfl rfl rfl (fun w' hE => r_assign rfl rfl) ?_
          refine QZ.nil ?_
          intro wv25 hE26
          replace hB5 := hB5.ext hE26
          replace hO := hO.ext hE26
          replace hB8 := hB8.ext hE26
          replace hEw := hEw.ext hE26
          refine C.code ?_
          refine W.seq ?_
          refine W.region ?_
          refine SQ.op rfl rfl rfl (r_move rfl rfl) ?_
          refine SQ.op rfl rfl rfl (r_gtr rfl rfl rfl) ?_
          refine SQ.nil ?_
          refine C.code ?_
          refine W.cond rfl ?_ ?_
          · intro hc27
            try simp only [decide_eq_true_eq, decide_eq_false_iff_not, Bool.not_eq_true', Bool.not_eq_false', Bool.not_true, Bool.not_false, Bool.not_eq_true, Bool.not_eq_false] at hc27
            refine W.seq ?_
            refine W.held (fun w' => Kp (fun b => v.ownBlock = some b) wv25 w') mixed ?_
            intro wv28 hE29 _
            have hS30 : Kp (fun b => v.ownBlock = some b) wv25 wv28 := hE29.to _
            refine AH.take 0 rfl (by kernel_rfl) (by kernel_rfl) (by kernel_rfl) PanOk.fn rfl rfl rfl hS30 (fun w' hS => r_move rfl rfl) ?_
            refine AH.take 1 rfl (by kernel_rfl) (by kernel_rfl) (by kernel_rfl) PanOk.fn rfl rfl rfl hS30 (fun w' hS => r_fieldAddr rfl rfl Tryd.underlying63 rfl Tryd.sizeOf5 rfl) ?_
            refine AH.take 2 rfl (by kernel_rfl) (by kernel_rfl) (by kernel_rfl) PanOk.fn rfl rfl rfl hS30 (fun w' hS => r_load rfl rfl Tryd.isAgg5 (by first | exact hS.cell (hB8.cell rfl) (hO.ne hB8 rfl) | exact hS.cell (hB5.cell rfl) (hO.ne hB8 rfl) | assumption)) ?_
            refine AH.take 3 rfl (by kernel_rfl) (by kernel_rfl) (by kernel_rfl) PanOk.fn rfl rfl rfl hS30 (fun w' hS => r_move rfl rfl) ?_
            refine AH.take 4 rfl (by kernel_rfl) (by kernel_rfl) (by kernel_rfl) PanOk.fn rfl rfl rfl hS30 (fun w' hS => r_move rfl rfl) ?_
            refine AH.take 5 rfl (by kernel_rfl) (by kernel_rfl) (by kernel_rfl) PanOk.fn rfl rfl rfl hS30 (fun w' hS => r_move rfl rfl) ?_
            refine AH.take 6 rfl (by kernel_rfl) (by kernel_rfl) (by kernel_rfl) PanOk.fn rfl rfl rfl hS30 (fun w' hS => r_move rfl rfl) ?_
            refine AH.take 7 rfl (by kernel_rfl) (by kernel_rfl) (by kernel_rfl) PanOk.fn rfl rfl rfl hS30 (fun w' hS => r_add rfl rfl rfl (w64 (by omega))) ?_
            refine AH.take 8 rfl (by kernel_rfl) (by kernel_rfl) (by kernel_rfl) PanOk.fn rfl rfl rfl hS30 (fun w' hS => r_sliceStr rfl rfl Tryd.underlying9 (.inr ⟨_, _, _, rfl, rfl, rfl⟩) (.inr ⟨_, _, _, rfl, rfl, rfl⟩) (by omega) (by omega)) ?_
            refine AH.take 9 rfl (by kernel_rfl) (by kernel_rfl) (by kernel_rfl) PanOk.fn rfl rfl rfl hS30 (fun w' hS => r_move rfl rfl) ?_
            refine AH.take 10 rfl (by kernel_rfl) (by kernel_rfl) (by kernel_rfl) PanOk.fn rfl rfl rfl hS30 (fun w' hS => r_build (pl := [(0, 1), (1, 1), (2, 1)]) rfl rfl Tryd.underlying57 Tryd.zeroValue57 (fun _ => by kernel_rfl) rfl rfl) ?_
            refine AH.one 11 rfl (by kernel_rfl) rfl ?_
            have hsz36 := hS30.size
            have hlt0_hB5_hB53 := hB5.lt
            have hlt0_hB8_hB53 := hB8.lt
            have hsz37 := hEw.size
            refine OW.new (v := (fun nb => .slice (some ⟨nb, 0, none⟩) 1 1)) rfl rfl (r_buildSlice rfl rfl Tryd.underlying37 Tryd.sizeOf57 Tryd.zeroValue57 rfl rfl rfl rfl rfl) ?_
            intro nb53 wv31 hge34 hlt35 hB53 hE32
            replace hB53 : Blk wv31 nb53 _ _ := hB53
            have hS33 := hS30.ext hE32
            have hA38 := Ext.trans hE29 hE32
            refine OW.next hS33 ?_
            refine AH.one 12 rfl (by kernel_rfl) rfl ?_
            refine OW.append (z := 3) (bytes := 32) rfl rfl rfl Tryd.underlying37 Tryd.type57 rfl rfl rfl rfl rfl rfl rfl (hO.ext hA38) hB53 rfl rfl (by have := hEw.size; have := hS33.size; omega) (by omega) rfl ?_
            intro va wv39 hO2 hE40
            replace hB53 := hB53.kp hE40 (fun e => by have := (hO.lt _ e).2; have := hS33.size; omega)
            have hS41 : Kp (fun b => v.ownBlock = some b) wv25 wv39 := hS33.both hE40
            refine OW.next hS41 ?_
            refine AH.take 13 rfl (by kernel_rfl) (by kernel_rfl) (by kernel_rfl) PanOk.fn rfl rfl rfl hS41 (fun w' hS => r_assign rfl rfl) ?_
            refine AH.done (by kernel_rfl) ?_
            replace hB5 := hB5.kp hS41 (hO.ne hB5 rfl)
            replace hB8 := hB8.kp hS41 (hO.ne hB8 rfl)
            replace hEw := hEw.new hS41 (fun b hb => (hO.lt _ hb).1)
            refine C.code ?_
            refine W.seq ?_
            refine W.region ?_
            refine SQ.op rfl rfl rfl (r_move rfl rfl) ?_
            refine SQ.op rfl rfl rfl (r_move rfl rfl) ?_
            refine SQ.op rfl rfl rfl (r_add rfl rfl rfl (w64 (by omega))) ?_
            refine SQ.op rfl rfl rfl (r_assign rfl rfl) ?_
            refine SQ.nil ?_
            refine C.code ?_
            refine W.exit rfl ?_
            obtain ⟨m, rfl⟩ : ∃ m, k = m + 1 := ⟨k - 1, by omega⟩
            have htk := tokOf_some (s := s.extract at_ s.size) (i := 0) (by omega) hno (by show 0 < wordLen _; omega)
            replace htk : tokOf (s.extract at_ s.size) = some (1, wordLen (s.extract at_ s.size)) := htk
            refine C.round (at_ + wordLen (s.extract at_ s.size), m, acc ++ [⟨1, s.extract at_ (at_ + wordLen (s.extract at_ s.size)), at_⟩], va) ⟨rfl, rfl, rfl, rfl, trivial⟩ ⟨hB5, ?_, hEw, hge5, by dsimp only; omega, by simp; omega, by dsimp only; omega, ?_⟩ (by dsimp only; omega)
            · rw [List.length_append, encs_snoc]; exact hO2
            · rw [hrun, readFrom, if_pos (by omega), if_neg (by omega), htk]
              rfl
          · intro hc27
            try simp only [decide_eq_true_eq, decide_eq_false_iff_not, Bool.not_eq_true', Bool.not_eq_false', Bool.not_true, Bool.not_false, Bool.not_eq_true, Bool.not_eq_false] at hc27
            refine W.skip ?_
            refine C.code ?_
            refine W.region ?_
            refine SQ.op rfl rfl rfl (r_add rfl rfl rfl (w64 (by omega))) ?_
            refine SQ.op rfl rfl rfl (r_move rfl rfl) ?_
            refine SQ.nil ?_
            refine C.round 1 ⟨rfl, rfl, rfl, rfl, rfl, rfl, trivial⟩ ⟨hB5, hO, hEw, by omega, fun j hj => ?_⟩ (by omega)
            rcases Nat.lt_or_ge j 0 with e | e
            · exact hno j e
            · obtain rfl : j = 0 := by omega
              show wordLen _ = 0
              omega
        · refine W.seq ?_
          refine W.region ?_
          refine SQ.opD true rfl rfl rfl (r_lss rfl rfl rfl) (by decide) ?_
          refine SQ.nil ?_
          refine C.code ?_
          refine W.seq ?_
          refine W.cond_t rfl ?_
          refine W.skip ?_
          refine C.code ?_
          refine W.seq ?_
          refine W.block ?_
          refine W.seq ?_
          refine W.region ?_
          refine SQ.op rfl rfl rfl (r_indexArrA rfl rfl rfl Tryd.underlying64 Tryd.sizeOf63 Tryd.isAgg63 rfl (by omega) rfl) ?_
          have hsz46 := hEw.size
          refine SQ.new (v := (fun nb => .pointer (some ⟨nb, 0, none⟩))) rfl rfl rfl (r_alloc rfl Tryd.zeroValue63) ?_
          intro nb8 wv42 hge43 hlt44 hB8 hE45
          have hlt_hB5_hB8 := Nat.lt_of_lt_of_le hB5.lt hge43
          replace hB5 := hB5.ext hE45
          replace hO := hO.ext hE45
          replace hEw := hEw.ext hE45
          replace hB8 : Blk wv42 nb8 _ _ := hB8
          refine SQ.storeA rfl rfl rfl rfl rfl Tryd.sizeOf63 rfl hB8 ⟨rfl, rfl⟩ ?_
          intro wv47 hS49 hK48
          have hsz50 := hK48.size
          replace hB5 := hB5.kp hK48 (by omega)
          replace hO := hO.kp hK48 (by first | (rintro _ rfl; exact hO.ne hB8 rfl) | (rintro _ rfl hq; have := hO.lt _ hq; omega))
          replace hB8 : Blk wv47 _ _ _ := hS49
          clear hS49
          replace hEw := hEw.new hK48 (by intro b hb; subst hb; omega)
          refine SQ.nil ?_
          refine C.code ?_
          refine W.seq ?_
          refine W.quiet mixed (by kernel_rfl) ?_
          refine QZ.op rfl rfl rfl (fun w' hE => r_fieldAddr rfl rfl Tryd.underlying63 rfl Tryd.sizeOf61 rfl) ?_
          refine QZ.op rfl rfl rfl (fun w' hE => r_load rfl rfl Tryd.isAgg61 (hE.cell (by first | exact hB8.cell rfl | exact hB5.cell rfl | assumption))) ?_
          refine QZ.op rfl rfl rfl (fun w' hE => r_move rfl rfl) ?_
          refine QZ.op rfl rfl rfl (fun w' hE => r_move rfl rfl) ?_
          refine QZ.op rfl rfl rfl (fun w' hE => r_sliceStr rfl rfl Tryd.underlying9 (.inr ⟨_, _, _, rfl, rfl, rfl⟩) (.inl ⟨rfl, rfl⟩) (by omega) (by omega)) ?_
          refine QZ.call rfl rfl rfl (fun w' hE => rc_value (fs := []) (cs := []) rfl rfl rfl Tryd.call23) (fun w' hE => hE.calls (ofNumber_spec _ (by omega) _)) ?_
          refine QZ.op rfl rfl rfl (fun w' hE => r_assign rfl rfl) ?_
          refine QZ.nil ?_
          intro wv51 hE52
          replace hB5 := hB5.ext hE52
          replace hO := hO.ext hE52
          replace hB8 := hB8.ext hE52
          replace hEw := hEw.ext hE52
          refine C.code ?_
          refine W.seq ?_
          refine W.region ?_
          refine SQ.op rfl rfl rfl (r_move rfl rfl) ?_
          refine SQ.op rfl rfl rfl (r_gtr rfl rfl rfl) ?_
          refine SQ.nil ?_
          refine C.code ?_
          refine W.cond rfl ?_ ?_
          · intro hc53
            try simp only [decide_eq_true_eq, decide_eq_false_iff_not, Bool.not_eq_true', Bool.not_eq_false', Bool.not_true, Bool.not_false, Bool.not_eq_true, Bool.not_eq_false] at hc53
            refine W.seq ?_
            refine W.held (fun w' => Kp (fun b => v.ownBlock = some b) wv51 w') mixed ?_
            intro wv54 hE55 _
            have hS56 : Kp (fun b => v.ownBlock = some b) wv51 wv54 := hE55.to _
            refine AH.take 0 rfl (by kernel_rfl) (by kernel_rfl) (by kernel_rfl) PanOk.fn rfl rfl rfl hS56 (fun w' hS => r_move rfl rfl) ?_
            refine AH.take 1 rfl (by kernel_rfl) (by kernel_rfl) (by kernel_rfl) PanOk.fn rfl rfl rfl hS56 (fun w' hS => r_fieldAddr rfl rfl Tryd.underlying63 rfl Tryd.sizeOf5 rfl) ?_
            refine AH.take 2 rfl (by kernel_rfl) (by kernel_rfl) (by kernel_rfl) PanOk.fn rfl rfl rfl hS56 (fun w' hS => r_load rfl rfl Tryd.isAgg5 (by first | exact hS.cell (hB8.cell rfl) (hO.ne hB8 rfl) | exact hS.cell (hB5.cell rfl) (hO.ne hB8 rfl) | assumption)) ?_
            refine AH.take 3 rfl (by kernel_rfl) (by kernel_rfl) (by kernel_rfl) PanOk.fn rfl rfl rfl hS56 (fun w' hS => r_move rfl rfl) ?_
            refine AH.take 4 rfl (by kernel_rfl) (by kernel_rfl) (by kernel_rfl) PanOk.fn rfl rfl rfl hS56 (fun w' hS => r_move rfl rfl) ?_
            refine AH.take 5 rfl (by kernel_rfl) (by kernel_rfl) (by kernel_rfl) PanOk.fn rfl rfl rfl hS56 (fun w' hS => r_move rfl rfl) ?_
            refine AH.take 6 rfl (by kernel_rfl) (by kernel_rfl) (by kernel_rfl) PanOk.fn rfl rfl rfl hS56 (fun w' hS => r_move rfl rfl) ?_
            refine AH.take 7 rfl (by kernel_rfl) (by kernel_rfl) (by kernel_rfl) PanOk.fn rfl rfl rfl hS56 (fun w' hS => r_add rfl rfl rfl (w64 (by omega))) ?_
            refine AH.take 8 rfl (by kernel_rfl) (by kernel_rfl) (by kernel_rfl) PanOk.fn rfl rfl rfl hS56 (fun w' hS => r_sliceStr rfl rfl Tryd.underlying9 (.inr ⟨_, _, _, rfl, rfl, rfl⟩) (.inr ⟨_, _, _, rfl, rfl, rfl⟩) (by omega) (by omega)) ?_
            refine AH.take 9 rfl (by kernel_rfl) (by kernel_rfl) (by kernel_rfl) PanOk.fn rfl rfl rfl hS56 (fun w' hS => r_move rfl rfl) ?_
            refine AH.take 10 rfl (by kernel_rfl) (by kernel_rfl) (by kernel_rfl) PanOk.fn rfl rfl rfl hS56 (fun w' hS => r_build (pl := [(0, 1), (1, 1), (2, 1)]) rfl rfl Tryd.underlying57 Tryd.zeroValue57 (fun _ => by kernel_rfl) rfl rfl) ?_
            refine AH.one 11 rfl (by kernel_rfl) rfl ?_
            have hsz62 := hS56.size
            have hlt0_hB5_hB53 := hB5.lt
            have hlt0_hB8_hB53 := hB8.lt
            have hsz63 := hEw.size
            refine OW.new (v := (fun nb => .slice (some ⟨nb, 0, none⟩) 1 1)) rfl rfl (r_buildSlice rfl rfl Tryd.underlying37 Tryd.sizeOf57 Tryd.zeroValue57 rfl rfl rfl rfl rfl) ?_
            intro nb53 wv57 hge60 hlt61 hB53 hE58
            replace hB53 : Blk wv57 nb53 _ _ := hB53
            have hS59 := hS56.ext hE58
            have hA64 := Ext.trans hE55 hE58
            refine OW.next hS59 ?_
            refine AH.one 12 rfl (by kernel_rfl) rfl ?_
            refine OW.append (z := 3) (bytes := 32) rfl rfl rfl Tryd.underlying37 Tryd.type57 rfl rfl rfl rfl rfl rfl rfl (hO.ext hA64) hB53 rfl rfl (by have := hEw.size; have := hS59.size; omega) (by omega) rfl ?_
            intro va wv65 hO2 hE66
            replace hB53 := hB53.kp hE66 (fun e => by have := (hO.lt _ e).2; have := hS59.size; omega)
            have hS67 : Kp (fun b => v.ownBlock = some b) wv51 wv65 := hS59.both hE66
            refine OW.next hS67 ?_
            refine AH.take 13 rfl (by kernel_rfl) (by kernel_rfl) (by kernel_rfl) PanOk.fn rfl rfl rfl hS67 (fun w' hS => r_assign rfl rfl) ?_
            refine AH.done (by kernel_rfl) ?_
            replace hB5 := hB5.kp hS67 (hO.ne hB5 rfl)
            replace hB8 := hB8.kp hS67 (hO.ne hB8 rfl)
            replace hEw := hEw.new hS67 (fun b hb => (hO.lt _ hb).1)
            refine C.code ?_
            refine W.seq ?_
            refine W.region ?_
            refine SQ.op rfl rfl rfl (r_move rfl rfl) ?_
            refine SQ.op rfl rfl rfl (r_move rfl rfl) ?_
            refine SQ.op rfl rfl rfl (r_add rfl rfl rfl (w64 (by omega))) ?_
            refine SQ.op rfl rfl rfl (r_assign rfl rfl) ?_
            refine SQ.nil ?_
            refine C.code ?_
            refine W.exit rfl ?_
            obtain ⟨m, rfl⟩ : ∃ m, k = m + 1 := ⟨k - 1, by omega⟩
            have htk := tokOf_some (s := s.extract at_ s.size) (i := 1) (by omega) hno (by show 0 < numLen _; omega)
            replace htk : tokOf (s.extract at_ s.size) = some (2, numLen (s.extract at_ s.size)) := htk
            refine C.round (at_ + numLen (s.extract at_ s.size), m, acc ++ [⟨2, s.extract at_ (at_ + numLen (s.extract at_ s.size)), at_⟩], va) ⟨rfl, rfl, rfl, rfl, trivial⟩ ⟨hB5, ?_, hEw, hge5, by dsimp only; omega, by simp; omega, by dsimp only; omega, ?_⟩ (by dsimp only; omega)
            · rw [List.length_append, encs_snoc]; exact hO2
            · rw [hrun, readFrom, if_pos (by omega), if_neg (by omega), htk]
              rfl
          · intro hc53
            try simp only [decide_eq_true_eq, decide_eq_false_iff_not, Bool.not_eq_true', Bool.not_eq_false', Bool.not_true, Bool.not_false, Bool.not_eq_true, Bool.not_eq_false] at hc53
            refine W.skip ?_
            refine C.code ?_
            refine W.region ?_
            refine SQ.op rfl rfl rfl (r_add rfl rfl rfl (w64 (by omega))) ?_
            refine SQ.op rfl rfl rfl (r_move rfl rfl) ?_
            refine SQ.nil ?_
            refine C.round 2 ⟨rfl, rfl, rfl, rfl, rfl, rfl, trivial⟩ ⟨hB5, hO, hEw, by omega, fun j hj => ?_⟩ (by omega)
            rcases Nat.lt_or_ge j 1 with e | e
            · exact hno j e
            · obtain rfl : j = 1 := by omega
              show numLen _ = 0
              omega
        · refine W.seq ?_
          refine W.region ?_
          refine SQ.opD true rfl rfl rfl (r_lss rfl rfl rfl) (by decide) ?_
          refine SQ.nil ?_
          refine C.code ?_
          refine W.seq ?_
          refine W.cond_t rfl ?_
          refine W.skip ?_
          refine C.code ?_
          refine W.seq ?_
          refine W.block ?_
          refine W.seq ?_
          refine W.region ?_
          refine SQ.op rfl rfl rfl (r_indexArrA rfl rfl rfl Tryd.underlying64 Tryd.sizeOf63 Tryd.isAgg63 rfl (by omega) rfl) ?_
          have hsz72 := hEw.size
          refine SQ.new (v := (fun nb => .pointer (some ⟨nb, 0, none⟩))) rfl rfl rfl (r_alloc rfl Tryd.zeroValue63) ?_
          intro nb8 wv68 hge69 hlt70 hB8 hE71
          have hlt_hB5_hB8 := Nat.lt_of_lt_of_le hB5.lt hge69
          replace hB5 := hB5.ext hE71
          replace hO := hO.ext hE71
          replace hEw := hEw.ext hE71
          replace hB8 : Blk wv68 nb8 _ _ := hB8
          refine SQ.storeA rfl rfl rfl rfl rfl Tryd.sizeOf63 rfl hB8 ⟨rfl, rfl⟩ ?_
          intro wv73 hS75 hK74
          have hsz76 := hK74.size
          replace hB5 := hB5.kp hK74 (by omega)
          replace hO := hO.kp hK74 (by first | (rintro _ rfl; exact hO.ne hB8 rfl) | (rintro _ rfl hq; have := hO.lt _ hq; omega))
          replace hB8 : Blk wv73 _ _ _ := hS75
          clear hS75
          replace hEw := hEw.new hK74 (by intro b hb; subst hb; omega)
          refine SQ.nil ?_
          refine C.code ?_
          refine W.seq ?_
          refine W.quiet mixed (by kernel_rfl) ?_
          refine QZ.op rfl rfl rfl (fun w' hE => r_fieldAddr rfl rfl Tryd.underlying63 rfl Tryd.sizeOf61 rfl) ?_
          refine QZ.op rfl rfl rfl (fun w' hE => r_load rfl rfl Tryd.isAgg61 (hE.cell (by first | exact hB8.cell rfl | exact hB5.cell rfl | assumption))) ?_
          refine QZ.op rfl rfl rfl (fun w' hE => r_move rfl rfl) ?_
          refine QZ.op rfl rfl rfl (fun w' hE => r_move rfl rfl) ?_
          refine QZ.op rfl rfl rfl (fun w' hE => r_sliceStr rfl rfl Tryd.underlying9 (.inr ⟨_, _, _, rfl, rfl, rfl⟩) (.inl ⟨rfl, rfl⟩) (by omega) (by omega)) ?_
          refine QZ.call rfl rfl rfl (fun w' hE => rc_value (fs := []) (cs := []) rfl rfl rfl Tryd.call24) (fun w' hE => hE.calls (ofSigns_spec _ (by omega) _)) ?_
          refine QZ.op rfl rfl rfl (fun w' hE => r_assign rfl rfl) ?_
          refine QZ.nil ?_
          intro wv77 hE78
          replace hB5 := hB5.ext hE78
          replace hO := hO.ext hE78
          replace hB8 := hB8.ext hE78
          replace hEw := hEw.ext hE78
          refine C.code ?_
          refine W.seq ?_
          refine W.region ?_
          refine SQ.op rfl rfl rfl (r_move rfl rfl) ?_
          refine SQ.op rfl rfl rfl (r_gtr rfl rfl rfl) ?_
          refine SQ.nil ?_
          refine C.code ?_
          refine W.cond rfl ?_ ?_
          · intro hc79
            try simp only [decide_eq_true_eq, decide_eq_false_iff_not, Bool.not_eq_true', Bool.not_eq_false', Bool.not_true, Bool.not_false, Bool.not_eq_true, Bool.not_eq_false] at hc79
            refine W.seq ?_
            refine W.held (fun w' => Kp (fun b => v.ownBlock = some b) wv77 w') mixed ?_
            intro wv80 hE81 _
            have hS82 : Kp (fun b => v.ownBlock = some b) wv77 wv80 := hE81.to _
            refine AH.take 0 rfl (by kernel_rfl) (by kernel_rfl) (by kernel_rfl) PanOk.fn rfl rfl rfl hS82 (fun w' hS => r_move rfl rfl) ?_
            refine AH.take 1 rfl (by kernel_rfl) (by kernel_rfl) (by kernel_rfl) PanOk.fn rfl rfl rfl hS82 (fun w' hS => r_fieldAddr rfl rfl Tryd.underlying63 rfl Tryd.sizeOf5 rfl) ?_
            refine AH.take 2 rfl (by kernel_rfl) (by kernel_rfl) (by kernel_rfl) PanOk.fn rfl rfl rfl hS82 (fun w' hS => r_load rfl rfl Tryd.isAgg5 (by first | exact hS.cell (hB8.cell rfl) (hO.ne hB8 rfl) | exact hS.cell (hB5.cell rfl) (hO.ne hB8 rfl) | assumption)) ?_
            refine AH.take 3 rfl (by kernel_rfl) (by kernel_rfl) (by kernel_rfl) PanOk.fn rfl rfl rfl hS82 (fun w' hS => r_move rfl rfl) ?_
            refine AH.take 4 rfl (by kernel_rfl) (by kernel_rfl) (by kernel_rfl) PanOk.fn rfl rfl rfl hS82 (fun w' hS => r_move rfl rfl) ?_
            refine AH.take 5 rfl (by kernel_rfl) (by kernel_rfl) (by kernel_rfl) PanOk.fn rfl rfl rfl hS82 (fun w' hS => r_move rfl rfl) ?_
            refine AH.take 6 rfl (by kernel_rfl) (by kernel_rfl) (by kernel_rfl) PanOk.fn rfl rfl rfl hS82 (fun w' hS => r_move rfl rfl) ?_
            refine AH.take 7 rfl (by kernel_rfl) (by kernel_rfl) (by kernel_rfl) PanOk.fn rfl rfl rfl hS82 (fun w' hS => r_add rfl rfl rfl (w64 (by omega))) ?_
            refine AH.take 8 rfl (by kernel_rfl) (by kernel_rfl) (by kernel_rfl) PanOk.fn rfl rfl rfl hS82 (fun w' hS => r_sliceStr rfl rfl Tryd.underlying9 (.inr ⟨_, _, _, rfl, rfl, rfl⟩) (.inr ⟨_, _, _, rfl, rfl, rfl⟩) (by omega) (by omega)) ?_
            refine AH.take 9 rfl (by kernel_rfl) (by kernel_rfl) (by kernel_rfl) PanOk.fn rfl rfl rfl hS82 (fun w' hS => r_move rfl rfl) ?_
            refine AH.take 10 rfl (by kernel_rfl) (by kernel_rfl) (by kernel_rfl) PanOk.fn rfl rfl rfl hS82 (fun w' hS => r_build (pl := [(0, 1), (1, 1), (2, 1)]) rfl rfl Tryd.underlying57 Tryd.zeroValue57 (fun _ => by kernel_rfl) rfl rfl) ?_
            refine AH.one 11 rfl (by kernel_rfl) rfl ?_
            have hsz88 := hS82.size
            have hlt0_hB5_hB53 := hB5.lt
            have hlt0_hB8_hB53 := hB8.lt
            have hsz89 := hEw.size
            refine OW.new (v := (fun nb => .slice (some ⟨nb, 0, none⟩) 1 1)) rfl rfl (r_buildSlice rfl rfl Tryd.underlying37 Tryd.sizeOf57 Tryd.zeroValue57 rfl rfl rfl rfl rfl) ?_
            intro nb53 wv83 hge86 hlt87 hB53 hE84
            replace hB53 : Blk wv83 nb53 _ _ := hB53
            have hS85 := hS82.ext hE84
            have hA90 := Ext.trans hE81 hE84
            refine OW.next hS85 ?_
            refine AH.one 12 rfl (by kernel_rfl) rfl ?_
            refine OW.append (z := 3) (bytes := 32) rfl rfl rfl Tryd.underlying37 Tryd.type57 rfl rfl rfl rfl rfl rfl rfl (hO.ext hA90) hB53 rfl rfl (by have := hEw.size; have := hS85.size; omega) (by omega) rfl ?_
            intro va wv91 hO2 hE92
            replace hB53 := hB53.kp hE92 (fun e => by have := (hO.lt _ e).2; have := hS85.size; omega)
            have hS93 : Kp (fun b => v.ownBlock = some b) wv77 wv91 := hS85.both hE92
            refine OW.next hS93 ?_
            refine AH.take 13 rfl (by kernel_rfl) (by kernel_rfl) (by kernel_rfl) PanOk.fn rfl rfl rfl hS93 (fun w' hS => r_assign rfl rfl) ?_
            refine AH.done (by kernel_rfl) ?_
            replace hB5 := hB5.kp hS93 (hO.ne hB5 rfl)
            replace hB8 := hB8.kp hS93 (hO.ne hB8 rfl)
            replace hEw := hEw.new hS93 (fun b hb => (hO.lt _ hb).1)
            refine C.code ?_
            refine W.seq ?_
            refine W.region ?_
            refine SQ.op rfl rfl rfl (r_move rfl rfl) ?_
            refine SQ.op rfl rfl rfl (r_move rfl rfl) ?_
            refine SQ.op rfl rfl rfl (r_add rfl rfl rfl (w64 (by omega))) ?_
            refine SQ.op rfl rfl rfl (r_assign rfl rfl) ?_
            refine SQ.nil ?_
            refine C.code ?_
            refine W.exit rfl ?_
            obtain ⟨m, rfl⟩ : ∃ m, k = m + 1 := ⟨k - 1, by omega⟩
            have htk := tokOf_some (s := s.extract at_ s.size) (i := 2) (by omega) hno (by show 0 < signLen _; omega)
            replace htk : tokOf (s.extract at_ s.size) = some (3, signLen (s.extract at_ s.size)) := htk
            refine C.round (at_ + signLen (s.extract at_ s.size), m, acc ++ [⟨3, s.extract at_ (at_ + signLen (s.extract at_ s.size)), at_⟩], va) ⟨rfl, rfl, rfl, rfl, trivial⟩ ⟨hB5, ?_, hEw, hge5, by dsimp only; omega, by simp; omega, by dsimp only; omega, ?_⟩ (by dsimp only; omega)
            · rw [List.length_append, encs_snoc]; exact hO2
            · rw [hrun, readFrom, if_pos (by omega), if_neg (by omega), htk]
              rfl
          · intro hc79
            try simp only [decide_eq_true_eq, decide_eq_false_iff_not, Bool.not_eq_true', Bool.not_eq_false', Bool.not_true, Bool.not_false, Bool.not_eq_true, Bool.not_eq_false] at hc79
            refine W.skip ?_
            refine C.code ?_
            refine W.region ?_
            refine SQ.op rfl rfl rfl (r_add rfl rfl rfl (w64 (by omega))) ?_
            refine SQ.op rfl rfl rfl (r_move rfl rfl) ?_
            refine SQ.nil ?_
            refine C.round 3 ⟨rfl, rfl, rfl, rfl, rfl, rfl, trivial⟩ ⟨hB5, hO, hEw, by omega, fun j hj => ?_⟩ (by omega)
            rcases Nat.lt_or_ge j 2 with e | e
            · exact hno j e
            · obtain rfl : j = 2 := by omega
              show signLen _ = 0
              omega
        · refine W.seq ?_
          refine W.region ?_
          refine SQ.opD false rfl rfl rfl (r_lss rfl rfl rfl) (by decide) ?_
          refine SQ.nil ?_
          refine C.code ?_
          refine W.seq ?_
          refine W.cond_f rfl ?_
          refine W.exit rfl ?_
          refine C.code ?_
          refine W.seq ?_
          refine W.region ?_
          refine SQ.op rfl rfl rfl (r_move rfl rfl) ?_
          refine SQ.op rfl rfl rfl (r_assign rfl rfl) ?_
          refine SQ.op rfl rfl rfl (r_assign rfl rfl) ?_
          refine SQ.op rfl rfl rfl (r_assign rfl rfl) ?_
          refine SQ.nil ?_
          refine C.code ?_
          refine W.ret ?_
          refine C.ret3 Tryd.results13 rfl rfl rfl ?_
          obtain ⟨m, rfl⟩ : ∃ m, k = m + 1 := ⟨k - 1, by omega⟩
          have hr : readR s = ([], at_, 5) := by rw [hrun, readFrom, if_pos (by omega), if_neg (by omega), tokOf_none (fun j hj => hno j (by omega))]
          rw [hr]; exact ⟨_, rfl, Ow.nil _ _ _ _, hEw⟩
    · intro hc11
      try simp only [decide_eq_true_eq, decide_eq_false_iff_not, Bool.not_eq_true', Bool.not_eq_false', Bool.not_true, Bool.not_false, Bool.not_eq_true, Bool.not_eq_false] at hc11
      refine W.exit rfl ?_
      refine C.code ?_
      refine W.seq ?_
      refine W.region ?_
      refine SQ.op rfl rfl rfl (r_move rfl rfl) ?_
      refine SQ.op rfl rfl rfl (r_assign rfl rfl) ?_
      refine SQ.op rfl rfl rfl (r_assign rfl rfl) ?_
      refine SQ.op rfl rfl rfl (r_assign rfl rfl) ?_
      refine SQ.nil ?_
      refine C.code ?_
      refine W.ret ?_
      refine C.ret3 Tryd.results13 rfl rfl rfl ?_
      have hr : readR s = (acc, 0, 0) := by
        rw [hrun]; cases k with
        | zero => rfl
        | succ m => rw [readFrom, if_neg (by omega)]
      rw [hr]; exact ⟨_, rfl, hO, hEw⟩


end Go.Proofs.YtclokcmgigdjlaaDoor
