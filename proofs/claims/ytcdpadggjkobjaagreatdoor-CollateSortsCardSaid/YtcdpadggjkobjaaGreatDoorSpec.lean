/-
  The plain functions of layer 39, of no program: pieces, letters, alphabets, keys. Conditions: none.
-/
import Derived.WalkKit
import Derived.Lib.Strings
namespace Go.Proofs.YtcdpadggjkobjaaGreatDoor
open Go.RowKit

abbrev Bs := List UInt8
def mkB (l : Bs) : ByteArray := ⟨l.toArray⟩
def bl (s : ByteArray) : Bs := s.data.toList
theorem mkB_bl (s : ByteArray) : mkB (bl s) = s := by obtain ⟨⟨l⟩⟩ := s; rfl
theorem bl_mkB (l : Bs) : bl (mkB l) = l := rfl
theorem bl_len (s : ByteArray) : (bl s).length = s.size := by simp [bl]
theorem mkB_size (l : Bs) : (mkB l).size = l.length := by simp [mkB, ByteArray.size]
theorem extract_mkB (s : ByteArray) (a b : Nat) : s.extract a b = mkB (((bl s).take b).drop a) := by
  rw [Lib.extract_eq, mkB, bl, List.drop_take]
theorem bl_inj {a b : ByteArray} (h : bl a = bl b) : a = b := by rw [← mkB_bl a, h, mkB_bl]

/-- The parts of a text between its spaces. -/
def piecesL : Bs → List Bs
  | [] => [[]]
  | c :: l => if c = 32 then [] :: piecesL l else
    match piecesL l with
    | [] => [[c]]
    | p :: ps => (c :: p) :: ps
theorem piecesL_ne (l : Bs) : piecesL l ≠ [] := by
  cases l with
  | nil => simp [piecesL]
  | cons c l =>
    unfold piecesL
    split
    · simp
    · split <;> simp
theorem piecesL_none {l : Bs} (h : ∀ c ∈ l, c ≠ 32) : piecesL l = [l] := by
  induction l with
  | nil => rfl
  | cons c l ih =>
    have := ih (fun x hx => h x (by simp [hx]))
    unfold piecesL
    rw [if_neg (h c (by simp)), this]
theorem piecesL_cut {a b : Bs} (h : ∀ c ∈ a, c ≠ 32) : piecesL (a ++ 32 :: b) = a :: piecesL b := by
  induction a with
  | nil => simp [piecesL]
  | cons c a ih =>
    have := ih (fun x hx => h x (by simp [hx]))
    rw [List.cons_append, piecesL, if_neg (h c (by simp)), this]
theorem piecesL_length (l : Bs) : (piecesL l).length = l.count 32 + 1 := by
  induction l with
  | nil => rfl
  | cons c l ih =>
    unfold piecesL
    split
    · rename_i h; subst h; simp [ih]
    · rename_i h
      rw [List.count_cons_of_ne (by simpa using h)]
      split
      · rename_i e; exact absurd e (piecesL_ne l)
      · rename_i e; rw [← ih, e]; rfl
theorem piecesL_total (l : Bs) : ((piecesL l).map List.length).sum + l.count 32 = l.length := by
  induction l with
  | nil => rfl
  | cons c l ih =>
    unfold piecesL
    split
    · rename_i h; subst h; simp; omega
    · rename_i h
      rw [List.count_cons_of_ne (by simpa using h)]
      split
      · rename_i e; exact absurd e (piecesL_ne l)
      · rename_i e; rw [e] at ih; simp at ih ⊢; omega
theorem le_sum_of_mem' {l : List Nat} {n : Nat} (h : n ∈ l) : n ≤ l.sum := by
  induction l with
  | nil => cases h
  | cons a l ih =>
    rw [List.sum_cons]
    rcases List.mem_cons.1 h with rfl | h
    · omega
    · have := ih h; omega
def piecesB (s : ByteArray) : List ByteArray := (piecesL (bl s)).map mkB
theorem piecesB_length (s : ByteArray) : (piecesB s).length = (bl s).count 32 + 1 := by rw [piecesB, List.length_map, piecesL_length]
theorem piecesB_le (s : ByteArray) : (piecesB s).length ≤ s.size + 1 := by
  rw [piecesB_length, ← bl_len]; have := List.count_le_length (a := (32 : UInt8)) (l := bl s); omega
theorem piecesB_size {s p : ByteArray} (h : p ∈ piecesB s) : p.size ≤ s.size := by
  obtain ⟨l, hl, rfl⟩ := List.mem_map.1 h
  have h1 := piecesL_total (bl s)
  have h2 : l.length ≤ ((piecesL (bl s)).map List.length).sum := le_sum_of_mem' (List.mem_map_of_mem hl)
  rw [mkB_size, ← bl_len]; omega

/-- The state of the reference's loop: 'done' lies ahead of 'from', none of the bytes from there on up to i is a space. -/
def PiecesAt (s : ByteArray) (fr i : Nat) (done : List ByteArray) : Prop :=
  fr ≤ i ∧ piecesB s = done ++ (piecesL ((bl s).drop fr)).map mkB ∧ ∀ j (hj : j < s.size), fr ≤ j → j < i → s[j] ≠ 32
theorem piecesAt_start (s : ByteArray) : PiecesAt s 0 0 [] := ⟨Nat.le_refl _, by simp [piecesB], fun j _ _ h => absurd h (by omega)⟩
theorem bl_get (s : ByteArray) (j : Nat) (h : j < s.size) : (bl s)[j]'(by rw [bl_len]; exact h) = s[j] := rfl
theorem piecesAt_mem {s : ByteArray} {fr i : Nat} {done : List ByteArray} (h : PiecesAt s fr i done) (hi : i ≤ s.size) : ∀ c ∈ ((bl s).take i).drop fr, c ≠ 32 := by
  intro c hc
  obtain ⟨j, hj, rfl⟩ := List.getElem_of_mem hc
  simp only [List.length_drop, List.length_take, bl_len] at hj
  rw [List.getElem_drop, List.getElem_take]
  exact h.2.2 (fr + j) (by omega) (by omega) (by omega)
theorem piecesAt_go {s : ByteArray} {fr i : Nat} {done : List ByteArray} (h : PiecesAt s fr i done) (hi : i < s.size) (hc : s[i] ≠ 32) : PiecesAt s fr (i + 1) done :=
  ⟨by have := h.1; omega, h.2.1, fun j hj h1 h2 => by
    by_cases e : j = i
    · subst e; exact hc
    · exact h.2.2 j hj h1 (by omega)⟩
theorem piecesAt_cut {s : ByteArray} {fr i : Nat} {done : List ByteArray} (h : PiecesAt s fr i done) (hi : i < s.size) (hc : s[i] = 32) : PiecesAt s (i + 1) (i + 1) (done ++ [s.extract fr i]) := by
  refine ⟨Nat.le_refl _, ?_, fun j _ _ _ => by omega⟩
  have hm := piecesAt_mem h (by omega)
  have hfi := h.1
  have e : (bl s).drop fr = ((bl s).take i).drop fr ++ 32 :: (bl s).drop (i + 1) := by
    have h1 : (bl s).drop i = 32 :: (bl s).drop (i + 1) := by
      rw [List.drop_eq_getElem_cons (by rw [bl_len]; exact hi)]; congr 1
    rw [← h1]
    conv => lhs; rw [← List.take_append_drop i (bl s)]
    rw [List.drop_append_of_le_length (by simp [bl_len]; omega)]
  rw [h.2.1, e, piecesL_cut hm, extract_mkB]; simp
theorem piecesAt_end {s : ByteArray} {fr : Nat} {done : List ByteArray} (h : PiecesAt s fr s.size done) : piecesB s = done ++ [s.extract fr s.size] := by
  have hm := piecesAt_mem h (Nat.le_refl _)
  have e : (bl s).take s.size = bl s := List.take_of_length_le (by rw [bl_len]; exact Nat.le_refl _)
  rw [h.2.1, extract_mkB]
  rw [e] at hm ⊢
  rw [piecesL_none hm]; rfl

/-! ### letters -/
/-- One letter more: is it longer than the best one so far, and does the text begin with it? -/
def better (s : ByteArray) (b : ByteArray × Int) (e : ByteArray × Nat) : ByteArray × Int := if b.1.size < e.1.size ∧ bl e.1 <+: bl s then (e.1, e.2) else b
def entsFrom : Nat → List (List ByteArray) → List (ByteArray × Nat)
  | _, [] => []
  | k, g :: gs => g.map (·, k) ++ entsFrom (k + 1) gs
def ents (gs : List (List ByteArray)) : List (ByteArray × Nat) := entsFrom 0 gs
/-- The longest letter with which a text begins, and its place. -/
def longest (gs : List (List ByteArray)) (s : ByteArray) : ByteArray × Int := (ents gs).foldl (better s) (ByteArray.empty, -1)
theorem entsFrom_append (k : Nat) (a b : List (List ByteArray)) : entsFrom k (a ++ b) = entsFrom k a ++ entsFrom (k + a.length) b := by
  induction a generalizing k with
  | nil => simp [entsFrom]
  | cons x a ih => simp only [List.cons_append, entsFrom, ih, List.append_assoc, List.length_cons]; congr 3; omega
theorem ents_take_succ {gs : List (List ByteArray)} {k : Nat} (hk : k < gs.length) : ents (gs.take (k + 1)) = ents (gs.take k) ++ gs[k].map (·, k) := by
  unfold ents
  rw [List.take_succ_eq_append_getElem hk, entsFrom_append]
  simp [entsFrom, List.length_take, Nat.min_eq_left (Nat.le_of_lt hk)]
theorem prefix_iff (x s : ByteArray) : bl x <+: bl s ↔ x.size ≤ s.size ∧ s.extract 0 x.size = x := by
  rw [List.prefix_iff_eq_take]
  constructor
  · intro h
    have hl : x.size ≤ s.size := by
      have := congrArg List.length h
      rw [List.length_take, bl_len, bl_len] at this; omega
    refine ⟨hl, ?_⟩
    rw [extract_mkB, List.drop_zero, ← bl_len x, ← h, mkB_bl]
  · rintro ⟨_, h⟩
    have h2 : bl (s.extract 0 x.size) = bl x := by rw [h]
    rw [extract_mkB, bl_mkB, List.drop_zero] at h2
    rw [bl_len]; exact h2.symm
/-- What a letter found is: a letter of the alphabet, or none. -/
theorem longest_sound (gs : List (List ByteArray)) (s : ByteArray) : (longest gs s = (ByteArray.empty, -1)) ∨ (∃ e ∈ ents gs, longest gs s = (e.1, (e.2 : Int)) ∧ 0 < e.1.size ∧ bl e.1 <+: bl s) := by
  unfold longest
  have : ∀ (l : List (ByteArray × Nat)) (b : ByteArray × Int), l.foldl (better s) b = b ∨ ∃ e ∈ l, l.foldl (better s) b = (e.1, (e.2 : Int)) ∧ 0 < e.1.size ∧ bl e.1 <+: bl s := by
    intro l
    induction l with
    | nil => intro b; exact .inl rfl
    | cons a l ih =>
      intro b
      rw [List.foldl_cons]
      rcases ih (better s b a) with h | ⟨e, he, h⟩
      · rw [h]
        unfold better
        split
        · rename_i hc; exact .inr ⟨a, by simp, rfl, by omega, hc.2⟩
        · exact .inl rfl
      · exact .inr ⟨e, by simp [he], h⟩
  exact this _ _

/-! ### the letters of a text -/
def dropB (s : ByteArray) (a : Nat) : ByteArray := s.extract a s.size
theorem bl_dropB (s : ByteArray) (a : Nat) : bl (dropB s a) = (bl s).drop a := by
  rw [dropB, extract_mkB, bl_mkB, List.take_of_length_le (by rw [bl_len]; exact Nat.le_refl _)]
theorem dropB_dropB (s : ByteArray) (a b : Nat) : dropB (dropB s a) b = dropB s (a + b) := bl_inj (by rw [bl_dropB, bl_dropB, bl_dropB, List.drop_drop])
theorem dropB_zero (s : ByteArray) : dropB s 0 = s := bl_inj (by rw [bl_dropB, List.drop_zero])
theorem dropB_size (s : ByteArray) (a : Nat) : (dropB s a).size = s.size - a := by rw [← bl_len, bl_dropB, List.length_drop, bl_len]
def parseN (gs : List (List ByteArray)) : Nat → ByteArray → Option (List (ByteArray × Int))
  | 0, s => if s.size = 0 then some [] else none
  | n + 1, s => if s.size = 0 then some [] else
    if (longest gs s).2 < 0 then none else (parseN gs n (dropB s (longest gs s).1.size)).map (longest gs s :: ·)
/-- The letters of a text, with their places; none: it is not written in the alphabet. -/
def parse (gs : List (List ByteArray)) (s : ByteArray) : Option (List (ByteArray × Int)) := parseN gs s.size s
theorem longest_pos {gs : List (List ByteArray)} {s : ByteArray} (h : ¬ (longest gs s).2 < 0) : 0 < (longest gs s).1.size ∧ (longest gs s).1.size ≤ s.size := by
  rcases longest_sound gs s with h' | ⟨e, _, h', h1, h2⟩
  · rw [h'] at h; exact absurd (by decide) h
  · rw [h']; exact ⟨h1, by have := h2.length_le; rwa [bl_len, bl_len] at this⟩
theorem parseN_eq (gs : List (List ByteArray)) : ∀ (n m : Nat) (s : ByteArray), s.size ≤ n → s.size ≤ m → parseN gs n s = parseN gs m s := by
  intro n
  induction n with
  | zero =>
    intro m s h _
    cases m with
    | zero => rfl
    | succ m => simp only [parseN]; rw [if_pos (by omega), if_pos (by omega)]
  | succ n ih =>
    intro m s h h'
    cases m with
    | zero => simp only [parseN]; rw [if_pos (by omega), if_pos (by omega)]
    | succ m =>
      simp only [parseN]
      split
      · rfl
      · split
        · rfl
        · rename_i h1
          have := longest_pos h1
          rw [ih m _ (by rw [dropB_size]; omega) (by rw [dropB_size]; omega)]
theorem parse_nil (gs : List (List ByteArray)) {s : ByteArray} (h : s.size = 0) : parse gs s = some [] := by
  unfold parse; rw [h]; simp only [parseN]; rw [if_pos h]
theorem parse_cons (gs : List (List ByteArray)) {s : ByteArray} (h : 0 < s.size) (h1 : ¬ (longest gs s).2 < 0) : parse gs s = (parse gs (dropB s (longest gs s).1.size)).map (longest gs s :: ·) := by
  unfold parse
  obtain ⟨n, hn⟩ : ∃ n, s.size = n + 1 := ⟨s.size - 1, by omega⟩
  have h2 := longest_pos h1
  rw [hn]; simp only [parseN]
  rw [if_neg (by omega), if_neg h1, parseN_eq gs n (dropB s (longest gs s).1.size).size _ (by rw [dropB_size]; omega) (Nat.le_refl _)]
theorem parse_none (gs : List (List ByteArray)) {s : ByteArray} (h : 0 < s.size) (h1 : (longest gs s).2 < 0) : parse gs s = none := by
  unfold parse
  obtain ⟨n, hn⟩ : ∃ n, s.size = n + 1 := ⟨s.size - 1, by omega⟩
  rw [hn]; simp only [parseN]
  rw [if_neg (by omega), if_pos h1]
theorem parse_length (gs : List (List ByteArray)) : ∀ (n : Nat) (s : ByteArray) (es : List (ByteArray × Int)), s.size ≤ n → parse gs s = some es → es.length ≤ s.size := by
  intro n
  induction n with
  | zero => intro s es h h1; rw [parse_nil gs (by omega)] at h1; injection h1 with h1; subst h1; simp
  | succ n ih =>
    intro s es h h1
    by_cases h0 : s.size = 0
    · rw [parse_nil gs h0] at h1; injection h1 with h1; subst h1; simp
    · by_cases h2 : (longest gs s).2 < 0
      · rw [parse_none gs (by omega) h2] at h1; cases h1
      · rw [parse_cons gs (by omega) h2] at h1
        have h3 := longest_pos h2
        obtain ⟨es', he, rfl⟩ := Option.map_eq_some_iff.1 h1
        have := ih _ _ (by rw [dropB_size]; omega) he
        rw [dropB_size] at this
        simp only [List.length_cons]; omega
/-- What reading a text comes to: the error, and the letters. -/
def readRes (gs : List (List ByteArray)) (s : ByteArray) : Int × List (ByteArray × Int) :=
  if 65536 < s.size then (11, []) else match parse gs s with
    | none => (10, [])
    | some es => (0, es)
def letS (es : List (ByteArray × Int)) : List ByteArray := es.map (·.1)
def keyS (es : List (ByteArray × Int)) : List Int := es.map (·.2)
end Go.Proofs.YtcdpadggjkobjaaGreatDoor
