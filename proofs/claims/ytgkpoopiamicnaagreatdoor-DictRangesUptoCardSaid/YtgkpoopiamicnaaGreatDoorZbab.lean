/-
  The plain functions of layer 39, of no program: pieces, letters, alphabets, keys. Conditions: none.
-/
import Derived.WalkKit
import Derived.Lib.Strings
import Derived.Test.YtgkpoopiamicnaaGreatDoorProg
import Derived.Test.YtgkpoopiamicnaaGreatDoorZbaa
namespace Go.Proofs.YtgkpoopiamicnaaGreatDoor
open Go.RowKit

abbrev Bs := List UInt8
def mkB (l : Bs) : ByteArray := ⟨l.toArray⟩
def bl (s : ByteArray) : Bs := s.data.toList
theorem mkB_bl (s : ByteArray) : mkB (bl s) = s := by obtain ⟨⟨l⟩⟩ := s; rfl
theorem bl_mkB (l : Bs) : bl (mkB l) = l := rfl
theorem bl_len (s : ByteArray) : (bl s).length = s.size := by simp [bl]
theorem mkB_size (l : Bs) : (mkB l).size = l.length := by simp [mkB, ByteArray.size]
theorem extract_mkB (s : ByteArray) (a b : Nat) : s.extract a b = mkB (((bl s).take b).drop a) := by
  rw [Lib.extract_eq, mkB, bl, List.drop_take]
theorem bl_inj {a b : ByteArray} (h : bl a = bl b) : a = b := by rw [← mkB_bl a, h, mkB_bl]

/-- The parts of a text between its spaces. -/
def piecesL : Bs → List Bs
  | [] => [[]]
  | c :: l => if c = 32 then [] :: piecesL l else
    match piecesL l with
    | [] => [[c]]
    | p :: ps => (c :: p) :: ps
theorem piecesL_ne (l : Bs) : piecesL l ≠ [] := by
  cases l with
  | nil => simp [piecesL]
  | cons c l =>
    unfold piecesL
    split
    · simp
    · split <;> simp
theorem piecesL_none {l : Bs} (h : ∀ c ∈ l, c ≠ 32) : piecesL l = [l] := by
  induction l with
  | nil => rfl
  | cons c l ih =>
    have := ih (fun x hx => h x (by simp [hx]))
    unfold piecesL
    rw [if_neg (h c (by simp)), this]
theorem piecesL_cut {a b : Bs} (h : ∀ c ∈ a, c ≠ 32) : piecesL (a ++ 32 :: b) = a :: piecesL b := by
  induction a with
  | nil => simp [piecesL]
  | cons c a ih =>
    have := ih (fun x hx => h x (by simp [hx]))
    rw [List.cons_append, piecesL, if_neg (h c (by simp)), this]
theorem piecesL_length (l : Bs) : (piecesL l).length = l.count 32 + 1 := by
  induction l with
  | nil => rfl
  | cons c l ih =>
    unfold piecesL
    split
    · rename_i h; subst h; simp [ih]
    · rename_i h
      rw [List.count_cons_of_ne (by simpa using h)]
      split
      · rename_i e; exact absurd e (piecesL_ne l)
      · rename_i e; rw [← ih, e]; rfl
theorem piecesL_total (l : Bs) : ((piecesL l).map List.length).sum + l.count 32 = l.length := by
  induction l with
  | nil => rfl
  | cons c l ih =>
    unfold piecesL
    split
    · rename_i h; subst h; simp; omega
    · rename_i h
      rw [List.count_cons_of_ne (by simpa using h)]
      split
      · rename_i e; exact absurd e (piecesL_ne l)
      · rename_i e; rw [e] at ih; simp at ih ⊢; omega
theorem le_sum_of_mem' {l : List Nat} {n : Nat} (h : n ∈ l) : n ≤ l.sum := by
  induction l with
  | nil => cases h
  | cons a l ih =>
    rw [List.sum_cons]
    rcases List.mem_cons.1 h with rfl | h
    · omega
    · have := ih h; omega
def piecesB (s : ByteArray) : List ByteArray := (piecesL (bl s)).map mkB
theorem piecesB_length (s : ByteArray) : (piecesB s).length = (bl s).count 32 + 1 := by rw [piecesB, List.length_map, piecesL_length]
theorem piecesB_le (s : ByteArray) : (piecesB s).length ≤ s.size + 1 := by
  rw [piecesB_length, ← bl_len]; have := List.count_le_length (a := (32 : UInt8)) (l := bl s); omega
theorem piecesB_size {s p : ByteArray} (h : p ∈ piecesB s) : p.size ≤ s.size := by
  obtain ⟨l, hl, rfl⟩ := List.mem_map.1 h
  have h1 := piecesL_total (bl s)
  have h2 : l.length ≤ ((piecesL (bl s)).map List.length).sum := le_sum_of_mem' (List.mem_map_of_mem hl)
  rw [mkB_size, ← bl_len]; omega

/-- The state of the reference's loop: 'done' lies ahead of 'from', none of the bytes from there on up to i is a space. -/
def PiecesAt (s : ByteArray) (fr i : Nat) (done : List ByteArray) : Prop :=
  fr ≤ i ∧ piecesB s = done ++ (piecesL ((bl s).drop fr)).map mkB ∧ ∀ j (hj : j < s.size), fr ≤ j → j < i → s[j] ≠ 32
theorem piecesAt_start (s : ByteArray) : PiecesAt s 0 0 [] := ⟨Nat.le_refl _, by simp [piecesB], fun j _ _ h => absurd h (by omega)⟩
theorem bl_get (s : ByteArray) (j : Nat) (h : j < s.size) : (bl s)[j]'(by rw [bl_len]; exact h) = s[j] := rfl
theorem piecesAt_mem {s : ByteArray} {fr i : Nat} {done : List ByteArray} (h : PiecesAt s fr i done) (hi : i ≤ s.size) : ∀ c ∈ ((bl s).take i).drop fr, c ≠ 32 := by
  intro c hc
  obtain ⟨j, hj, rfl⟩ := List.getElem_of_mem hc
  simp only [List.length_drop, List.length_take, bl_len] at hj
  rw [List.getElem_drop, List.getElem_take]
  exact h.2.2 (fr + j) (by omega) (by omega) (by omega)
theorem piecesAt_go {s : ByteArray} {fr i : Nat} {done : List ByteArray} (h : PiecesAt s fr i done) (hi : i < s.size) (hc : s[i] ≠ 32) : PiecesAt s fr (i + 1) done :=
  ⟨by have := h.1; omega, h.2.1, fun j hj h1 h2 => by
    by_cases e : j = i
    · subst e; exact hc
    · exact h.2.2 j hj h1 (by omega)⟩
theorem piecesAt_cut {s : ByteArray} {fr i : Nat} {done : List ByteArray} (h : PiecesAt s fr i done) (hi : i < s.size) (hc : s[i] = 32) : PiecesAt s (i + 1) (i + 1) (done ++ [s.extract fr i]) := by
  refine ⟨Nat.le_refl _, ?_, fun j _ _ _ => by omega⟩
  have hm := piecesAt_mem h (by omega)
  have hfi := h.1
  have e : (bl s).drop fr = ((bl s).take i).drop fr ++ 32 :: (bl s).drop (i + 1) := by
    have h1 : (bl s).drop i = 32 :: (bl s).drop (i + 1) := by
      rw [List.drop_eq_getElem_cons (by rw [bl_len]; exact hi)]; congr 1
    rw [← h1]
    conv => lhs; rw [← List.take_append_drop i (bl s)]
    rw [List.drop_append_of_le_length (by simp [bl_len]; omega)]
  rw [h.2.1, e, piecesL_cut hm, extract_mkB]; simp
theorem piecesAt_end {s : ByteArray} {fr : Nat} {done : List ByteArray} (h : PiecesAt s fr s.size done) : piecesB s = done ++ [s.extract fr s.size] := by
  have hm := piecesAt_mem h (Nat.le_refl _)
  have e : (bl s).take s.size = bl s := List.take_of_length_le (by rw [bl_len]; exact Nat.le_refl _)
  rw [h.2.1, extract_mkB]
  rw [e] at hm ⊢
  rw [piecesL_none hm]; rfl

/-! ### letters -/
/-- One letter more: is it longer than the best one so far, and does the text begin with it? -/
def better39 (s : ByteArray) (b : ByteArray × Int) (e : ByteArray × Nat) : ByteArray × Int := if b.1.size < e.1.size ∧ bl e.1 <+: bl s then (e.1, e.2) else b
def entsFrom : Nat → List (List ByteArray) → List (ByteArray × Nat)
  | _, [] => []
  | k, g :: gs => g.map (·, k) ++ entsFrom (k + 1) gs
def ents (gs : List (List ByteArray)) : List (ByteArray × Nat) := entsFrom 0 gs
/-- The longest letter with which a text begins, and its place. -/
def longest (gs : List (List ByteArray)) (s : ByteArray) : ByteArray × Int := (ents gs).foldl (better39 s) (ByteArray.empty, -1)
theorem entsFrom_append (k : Nat) (a b : List (List ByteArray)) : entsFrom k (a ++ b) = entsFrom k a ++ entsFrom (k + a.length) b := by
  induction a generalizing k with
  | nil => simp [entsFrom]
  | cons x a ih => simp only [List.cons_append, entsFrom, ih, List.append_assoc, List.length_cons]; congr 3; omega
theorem ents_take_succ {gs : List (List ByteArray)} {k : Nat} (hk : k < gs.length) : ents (gs.take (k + 1)) = ents (gs.take k) ++ gs[k].map (·, k) := by
  unfold ents
  rw [List.take_succ_eq_append_getElem hk, entsFrom_append]
  simp [entsFrom, List.length_take, Nat.min_eq_left (Nat.le_of_lt hk)]
theorem prefix_iff (x s : ByteArray) : bl x <+: bl s ↔ x.size ≤ s.size ∧ s.extract 0 x.size = x := by
  rw [List.prefix_iff_eq_take]
  constructor
  · intro h
    have hl : x.size ≤ s.size := by
      have := congrArg List.length h
      rw [List.length_take, bl_len, bl_len] at this; omega
    refine ⟨hl, ?_⟩
    rw [extract_mkB, List.drop_zero, ← bl_len x, ← h, mkB_bl]
  · rintro ⟨_, h⟩
    have h2 : bl (s.extract 0 x.size) = bl x := by rw [h]
    rw [extract_mkB, bl_mkB, List.drop_zero] at h2
    rw [bl_len]; exact h2.symm
/-- What a letter found is: a letter of the alphabet, or none. -/
theorem longest_sound (gs : List (List ByteArray)) (s : ByteArray) : (longest gs s = (ByteArray.empty, -1)) ∨ (∃ e ∈ ents gs, longest gs s = (e.1, (e.2 : Int)) ∧ 0 < e.1.size ∧ bl e.1 <+: bl s) := by
  unfold longest
  have : ∀ (l : List (ByteArray × Nat)) (b : ByteArray × Int), l.foldl (better39 s) b = b ∨ ∃ e ∈ l, l.foldl (better39 s) b = (e.1, (e.2 : Int)) ∧ 0 < e.1.size ∧ bl e.1 <+: bl s := by
    intro l
    induction l with
    | nil => intro b; exact .inl rfl
    | cons a l ih =>
      intro b
      rw [List.foldl_cons]
      rcases ih (better39 s b a) with h | ⟨e, he, h⟩
      · rw [h]
        unfold better39
        split
        · rename_i hc; exact .inr ⟨a, by simp, rfl, by omega, hc.2⟩
        · exact .inl rfl
      · exact .inr ⟨e, by simp [he], h⟩
  exact this _ _

/-! ### the letters of a text -/
def dropB (s : ByteArray) (a : Nat) : ByteArray := s.extract a s.size
theorem bl_dropB (s : ByteArray) (a : Nat) : bl (dropB s a) = (bl s).drop a := by
  rw [dropB, extract_mkB, bl_mkB, List.take_of_length_le (by rw [bl_len]; exact Nat.le_refl _)]
theorem dropB_dropB (s : ByteArray) (a b : Nat) : dropB (dropB s a) b = dropB s (a + b) := bl_inj (by rw [bl_dropB, bl_dropB, bl_dropB, List.drop_drop])
theorem dropB_zero (s : ByteArray) : dropB s 0 = s := bl_inj (by rw [bl_dropB, List.drop_zero])
theorem dropB_size (s : ByteArray) (a : Nat) : (dropB s a).size = s.size - a := by rw [← bl_len, bl_dropB, List.length_drop, bl_len]
def parseN (gs : List (List ByteArray)) : Nat → ByteArray → Option (List (ByteArray × Int))
  | 0, s => if s.size = 0 then some [] else none
  | n + 1, s => if s.size = 0 then some [] else
    if (longest gs s).2 < 0 then none else (parseN gs n (dropB s (longest gs s).1.size)).map (longest gs s :: ·)
/-- The letters of a text, with their places; none: it is not written in the alphabet. -/
def parse (gs : List (List ByteArray)) (s : ByteArray) : Option (List (ByteArray × Int)) := parseN gs s.size s
theorem longest_pos {gs : List (List ByteArray)} {s : ByteArray} (h : ¬ (longest gs s).2 < 0) : 0 < (longest gs s).1.size ∧ (longest gs s).1.size ≤ s.size := by
  rcases longest_sound gs s with h' | ⟨e, _, h', h1, h2⟩
  · rw [h'] at h; exact absurd (by decide) h
  · rw [h']; exact ⟨h1, by have := h2.length_le; rwa [bl_len, bl_len] at this⟩
theorem parseN_eq (gs : List (List ByteArray)) : ∀ (n m : Nat) (s : ByteArray), s.size ≤ n → s.size ≤ m → parseN gs n s = parseN gs m s := by
  intro n
  induction n with
  | zero =>
    intro m s h _
    cases m with
    | zero => rfl
    | succ m => simp only [parseN]; rw [if_pos (by omega), if_pos (by omega)]
  | succ n ih =>
    intro m s h h'
    cases m with
    | zero => simp only [parseN]; rw [if_pos (by omega), if_pos (by omega)]
    | succ m =>
      simp only [parseN]
      split
      · rfl
      · split
        · rfl
        · rename_i h1
          have := longest_pos h1
          rw [ih m _ (by rw [dropB_size]; omega) (by rw [dropB_size]; omega)]
theorem parse_nil (gs : List (List ByteArray)) {s : ByteArray} (h : s.size = 0) : parse gs s = some [] := by
  unfold parse; rw [h]; simp only [parseN]; rw [if_pos h]
theorem parse_cons (gs : List (List ByteArray)) {s : ByteArray} (h : 0 < s.size) (h1 : ¬ (longest gs s).2 < 0) : parse gs s = (parse gs (dropB s (longest gs s).1.size)).map (longest gs s :: ·) := by
  unfold parse
  obtain ⟨n, hn⟩ : ∃ n, s.size = n + 1 := ⟨s.size - 1, by omega⟩
  have h2 := longest_pos h1
  rw [hn]; simp only [parseN]
  rw [if_neg (by omega), if_neg h1, parseN_eq gs n (dropB s (longest gs s).1.size).size _ (by rw [dropB_size]; omega) (Nat.le_refl _)]
theorem parse_none (gs : List (List ByteArray)) {s : ByteArray} (h : 0 < s.size) (h1 : (longest gs s).2 < 0) : parse gs s = none := by
  unfold parse
  obtain ⟨n, hn⟩ : ∃ n, s.size = n + 1 := ⟨s.size - 1, by omega⟩
  rw [hn]; simp only [parseN]
  rw [if_neg (by omega), if_pos h1]
theorem parse_length (gs : List (List ByteArray)) : ∀ (n : Nat) (s : ByteArray) (es : List (ByteArray × Int)), s.size ≤ n → parse gs s = some es → es.length ≤ s.size := by
  intro n
  induction n with
  | zero => intro s es h h1; rw [parse_nil gs (by omega)] at h1; injection h1 with h1; subst h1; simp
  | succ n ih =>
    intro s es h h1
    by_cases h0 : s.size = 0
    · rw [parse_nil gs h0] at h1; injection h1 with h1; subst h1; simp
    · by_cases h2 : (longest gs s).2 < 0
      · rw [parse_none gs (by omega) h2] at h1; cases h1
      · rw [parse_cons gs (by omega) h2] at h1
        have h3 := longest_pos h2
        obtain ⟨es', he, rfl⟩ := Option.map_eq_some_iff.1 h1
        have := ih _ _ (by rw [dropB_size]; omega) he
        rw [dropB_size] at this
        simp only [List.length_cons]; omega
/-- What reading a text comes to: the error, and the letters. -/
def readRes (gs : List (List ByteArray)) (s : ByteArray) : Int × List (ByteArray × Int) :=
  if 65536 < s.size then (11, []) else match parse gs s with
    | none => (10, [])
    | some es => (0, es)
def letS (es : List (ByteArray × Int)) : List ByteArray := es.map (·.1)
def keyS (es : List (ByteArray × Int)) : List Int := es.map (·.2)
end Go.Proofs.YtgkpoopiamicnaaGreatDoor
namespace Go.Proofs.YtgkpoopiamicnaaGreatDoor
open Go.RowKit

def letterB (l : List UInt8) : Bool := decide (1 ≤ l.length) && decide (l.length ≤ 8) && l.all (fun c => decide (32 < c.toNat))
theorem letterB_short {l : List UInt8} (h : l.length < 1 ∨ 8 < l.length) : letterB l = false := by
  unfold letterB
  rcases h with h | h
  · rw [decide_eq_false (show ¬ 1 ≤ l.length by omega)]; rfl
  · rw [decide_eq_false (show ¬ l.length ≤ 8 by omega)]; simp
theorem letterB_bad {l : List UInt8} {k : Nat} (hk : k < l.length) (h : l[k].toNat ≤ 32) : letterB l = false := by
  have : l.all (fun c => decide (32 < c.toNat)) = false := by
    rw [List.all_eq_false]; exact ⟨l[k], List.getElem_mem hk, by simp; omega⟩
  unfold letterB; rw [this]; simp
theorem letterB_good {l : List UInt8} (h1 : 1 ≤ l.length) (h8 : l.length ≤ 8) (h : ∀ j (hj : j < l.length), 32 < l[j].toNat) : letterB l = true := by
  unfold letterB
  rw [decide_eq_true h1, decide_eq_true h8]
  simp only [Bool.and_self, Bool.true_and, List.all_eq_true, decide_eq_true_eq]
  intro c hc; obtain ⟨j, hj, rfl⟩ := List.getElem_of_mem hc; exact h j hj

set_option maxHeartbeats 400000 in
theorem refletter_any (s : ByteArray) (w : World) (hs : s.size ≤ maxLen) :
    Calls Tryz.prog 49 #[.string s] w fun e w' => e = .returned (.bool (letterB (bl s))) ∧ w = w' := by
  unfold maxLen at hs
  have hl : (bl s).length = s.size := by simp [bl]
  by_cases h1 : s.size < 1 ∨ 8 < s.size
  · have hb := letterB_short (l := bl s) (by simpa [bl] using h1)
    generalize letterB (bl s) = b at hb
    have HB := Lib.hid hb
    clear hb hl
    rcases h1 with h1 | h1
    all_goals
      go_enter Tryz.func49, Tryz.ntmps49
      go_wp2
      go_ret
      rw [HB.out]; exact ⟨rfl, rfl⟩
  · have h2 : 1 ≤ s.size := by omega
    have h3 : s.size ≤ 8 := by omega
    clear h1 hl
    go_enter Tryz.func49, Tryz.ntmps49
    go_wp2
    go_loop [3] (fun i => ∃ k : Nat, k ≤ s.size ∧ i = .int .i64 k ∧ ∀ j (hj : j < (bl s).length), j < k → 32 < (bl s)[j].toNat) (fun i => s.size - (RowKit.intOf i).toNat)
    case atStart => exact ⟨0, Nat.zero_le _, rfl, fun j _ h => absurd h (by omega)⟩
    case round =>
      obtain ⟨k, hk, rfl, hall⟩ := hrel
      have HA := Lib.hid hall
      clear hall
      by_cases hlt : k < s.size
      · by_cases hc : s[k].toNat ≤ 32
        · go_wp2
          go_ret
          rw [letterB_bad (l := bl s) (k := k) (by simpa [bl] using hlt) hc]; exact ⟨rfl, rfl⟩
        · go_wp2
          go_round
          case rel => exact ⟨k + 1, by omega, by go_num, fun j hj hjk => if h : j = k then by subst h; exact Nat.lt_of_not_le hc else HA.out j hj (by omega)⟩
          case measure => simp [RowKit.intOf]; omega
      · go_wp2
        go_ret
        rw [letterB_good (l := bl s) (by simpa [bl] using h2) (by simpa [bl] using h3) (fun j hj => HA.out j hj (by rw [bl_len] at hj; omega))]; exact ⟨rfl, rfl⟩

theorem info_string : (Tryz.prog.info? 9).map (fun i => (i.zero, i.size, i.bytes)) = some (some (.string ByteArray.empty), 1, 16) := by kernel_rfl

/-- A call hands back a new row of strings. -/
def GivesS (w : World) (ss : List ByteArray) (e : Ending) (w' : World) : Prop :=
  ∃ v, e = .returned v ∧ w'.ownsRow w.heap.size 9 1 v ss.length (ss.map Value.string) ∧ Below w.heap.size w w'

set_option maxRecDepth 20000 in
set_option maxHeartbeats 1000000 in
theorem refpieces_any (s : ByteArray) (w : World) (hs : s.size ≤ 16384) :
    Calls Tryz.prog 47 #[.string s] w (GivesS w (piecesB s)) := by
  obtain ⟨i0, hi, hz0, hz1, hz2⟩ := info_parts info_string
  have hle := piecesB_le s
  go_enter Tryz.func47, Tryz.ntmps47
  go_wp2
  go_loopw [3, 4, 5] (fun v f i wr => ∃ (k fr : Nat) (done : List ByteArray), k ≤ s.size + 1 ∧ fr ≤ s.size + 1 ∧ i = .int .i64 k ∧ f = .int .i64 fr ∧ wr.ownsRow w.heap.size 9 1 v done.length (done.map Value.string) ∧
      (k ≤ s.size → PiecesAt s fr k done) ∧ (k = s.size + 1 → piecesB s = done) ∧ done.length ≤ k ∧ Below w.heap.size w wr) (fun _ _ i _ => s.size + 1 - (RowKit.intOf i).toNat)
  case atStart => exact ⟨0, 0, [], by omega, by omega, rfl, rfl, World.ownsRow_nil _ _ _ _, fun _ => piecesAt_start s, fun h => absurd h (by omega), Nat.le_refl _, Below.refl _ _⟩
  case round =>
    obtain ⟨k, fr, done, hk, hfr, rfl, rfl, hown, hP, hE, hdl, hb⟩ := hrel
    by_cases hlt : k ≤ s.size
    · have HP := Lib.hid (hP hlt)
      clear hP hE
      have hfk := HP.out.1
      have hM : done.length + 1 ≤ 16385 := by omega
      by_cases hlt2 : k < s.size
      · have hkb : ((k : Int) == s.size) = false := beq_eq_false_iff_ne.2 (by omega)
        by_cases hc : s[k].toNat = 32
        · have hcb : ((s[k].toNat : Int) == 32) = true := beq_iff_eq.2 (by omega)
          have HC := Lib.hid hc; clear hc
          go_wp2_with (at_builtin; refine wpList_append_own _ rfl _ _ 22 rfl w.heap.size 9 i0 (.string ByteArray.empty) 1 16 Tryz.underlying22 hi hz0 hz1 hz2 rfl (by decide) _ _ _ rfl (hown.alloc _) ⟨wr.heap.size, 0, none⟩ 1 1 [.string (s.extract fr k)] rfl rfl (cell_one_new _ _ _) (by simp [Value.oneCell']) (by unfold maxLen; omega) (by omega) (by have := hb.size; simp; omega) ?_; intro v' w1 hown' hgrow _)
          have hb1 : Below w.heap.size w w1 := (hb.alloc hb.size _).grown hgrow (by have := hb.size; simp; omega) (fun g hg => (hown.lt g hg).1)
          clear hgrow hown
          go_roundw
          case rel => exact ⟨k + 1, k + 1, done ++ [s.extract fr k], by omega, by omega, by go_num, by go_num, by simpa using hown', fun _ => piecesAt_cut HP.out hlt2 (UInt8.toNat_inj.1 HC.out), fun h => absurd h (by omega), by rw [List.length_append, List.length_singleton]; omega, hb1⟩
          case measure => simp [RowKit.intOf]; omega
        · have hcb : ((s[k].toNat : Int) == 32) = false := beq_eq_false_iff_ne.2 (by omega)
          go_wp2
          go_roundw
          case rel => exact ⟨k + 1, fr, done, by omega, by omega, by go_num, rfl, hown, fun _ => piecesAt_go HP.out hlt2 (fun e => hc (by rw [e]; rfl)), fun h => absurd h (by omega), by omega, hb⟩
          case measure => simp [RowKit.intOf]; omega
      · obtain rfl : k = s.size := by omega
        go_wp2_with (at_builtin; refine wpList_append_own _ rfl _ _ 22 rfl w.heap.size 9 i0 (.string ByteArray.empty) 1 16 Tryz.underlying22 hi hz0 hz1 hz2 rfl (by decide) _ _ _ rfl (hown.alloc _) ⟨wr.heap.size, 0, none⟩ 1 1 [.string (s.extract fr s.size)] rfl rfl (cell_one_new _ _ _) (by simp [Value.oneCell']) (by unfold maxLen; omega) (by omega) (by have := hb.size; simp; omega) ?_; intro v' w1 hown' hgrow _)
        have hb1 : Below w.heap.size w w1 := (hb.alloc hb.size _).grown hgrow (by have := hb.size; simp; omega) (fun g hg => (hown.lt g hg).1)
        clear hgrow hown
        go_roundw
        case rel => exact ⟨s.size + 1, s.size + 1, done ++ [s.extract fr s.size], by omega, by omega, by go_num, by go_num, by simpa using hown', fun h => absurd h (by omega), fun _ => piecesAt_end HP.out, by rw [List.length_append, List.length_singleton]; omega, hb1⟩
        case measure => simp [RowKit.intOf]
    · have HE := Lib.hid (hE (by omega))
      clear hP hE
      go_wp2
      go_ret
      refine ⟨_, rfl, ?_, hb⟩
      rw [HE.out]; exact hown
end Go.Proofs.YtgkpoopiamicnaaGreatDoor
namespace Go.Proofs.YtgkpoopiamicnaaGreatDoor
open Go.RowKit

theorem grown_of_below {w w' : World} (h : Below w.heap.size w w') (row : Option Nat) : w.grownBy w' row := ⟨h.os, h.tape, h.output, h.size, fun i hi _ => h.block i hi⟩
theorem own_below {w w' : World} {base : Nat} {e : TypeId} {size n : Nat} {v : Value} {xs : List Value} (h : w.ownsRow base e size v n xs) (hb : Below w.heap.size w w') : w'.ownsRow base e size v n xs :=
  h.kept (grown_of_below hb none) (by
    rcases h.2 with ⟨rfl, _⟩ | ⟨g, cap, cur, rfl, _⟩
    · exact .inl rfl
    · exact .inr (by simp [Value.ownBlock]))
theorem own_blocks {w w' : World} {base : Nat} {e : TypeId} {size n : Nat} {v : Value} {xs : List Value} (h : w.ownsRow base e size v n xs) (hb : ∀ b, base ≤ b → b < w.heap.size → w'.heap[b]? = w.heap[b]?) : w'.ownsRow base e size v n xs := by
  obtain ⟨h1, h2 | ⟨g, cap, cur, h3, h4, h5, h6⟩⟩ := h
  · exact ⟨h1, .inl h2⟩
  · exact ⟨h1, .inr ⟨g, cap, cur, h3, h4, (hb g h4 (Array.getElem?_eq_some_iff.1 h5).1).trans h5, h6⟩⟩
/-- Two rows whose element types differ never share a block. -/
theorem own_own_ne {w : World} {b b' : Nat} {e e' : TypeId} {s s' n n' : Nat} {v v' : Value} {xs xs' : List Value} (h : w.ownsRow b e s v n xs) (h' : w.ownsRow b' e' s' v' n' xs') (hne : e ≠ e') : v.ownBlock = none ∨ v.ownBlock ≠ v'.ownBlock := by
  rcases h.2 with ⟨rfl, _⟩ | ⟨g, cap, cur, rfl, _, hh, _⟩
  · exact .inl rfl
  · refine .inr ?_
    rcases h'.2 with ⟨rfl, _⟩ | ⟨g', cap', cur', rfl, _, hh', _⟩
    · simp [Value.ownBlock]
    · intro he
      have : g = g' := by simpa [Value.ownBlock] using he
      subst this
      rw [hh] at hh'; injection hh' with hh'; injection hh' with _ ht
      exact hne ht
theorem own_mono {w : World} {b b' : Nat} {e : TypeId} {s n : Nat} {v : Value} {xs : List Value} (h : w.ownsRow b e s v n xs) (hb : b' ≤ b) : w.ownsRow b' e s v n xs := by
  obtain ⟨h1, h2 | ⟨g, cap, cur, h3, h4, h5⟩⟩ := h
  · exact ⟨h1, .inl h2⟩
  · exact ⟨h1, .inr ⟨g, cap, cur, h3, Nat.le_trans hb h4, h5⟩⟩

theorem grown_setCell (w : World) (p : Addr) (u : Value) : w.grownBy (w.setCell p u) (some p.block) :=
  ⟨rfl, rfl, rfl, by simp [World.setCell], fun k _ hne => Below.heap_setCell _ _ _ _ (fun e => hne (by rw [e]))⟩
/-- A row (elements of type e1) of rows (elements of type e0). -/
def OwnM (w : World) (base : Nat) (e1 e0 : TypeId) (v : Value) (gs : List (List Value)) : Prop :=
  ∃ vs : List Value, w.ownsRow base e1 1 v gs.length vs ∧ vs.length = gs.length ∧ ∀ (k : Nat) (hk : k < gs.length), ∃ u, vs[k]? = some u ∧ w.ownsRow base e0 1 u gs[k].length gs[k]

section
variable {w w' : World} {base : Nat} {e1 e0 : TypeId} {v : Value} {gs : List (List Value)}
theorem OwnM.nil_ (w : World) (base : Nat) (e1 e0 : TypeId) : OwnM w base e1 e0 (.slice none 0 0) [] := ⟨[], World.ownsRow_nil _ _ _ _, rfl, fun k hk => absurd hk (by simp)⟩
theorem OwnM.below (h : OwnM w base e1 e0 v gs) (hb : Below w.heap.size w w') : OwnM w' base e1 e0 v gs := by
  obtain ⟨vs, h1, h2, h3⟩ := h
  refine ⟨vs, own_below h1 hb, h2, fun k hk => ?_⟩
  obtain ⟨u, hu, ho⟩ := h3 k hk
  exact ⟨u, hu, own_below ho hb⟩
theorem OwnM.alloc (h : OwnM w base e1 e0 v gs) (o : Obj) : OwnM (w.alloc o) base e1 e0 v gs := h.below ((Below.refl _ _).alloc (Nat.le_refl _) o)
theorem OwnM.mono {b' : Nat} (h : OwnM w base e1 e0 v gs) (hb : b' ≤ base) : OwnM w b' e1 e0 v gs := by
  obtain ⟨vs, h1, h2, h3⟩ := h
  refine ⟨vs, own_mono h1 hb, h2, fun k hk => ?_⟩
  obtain ⟨u, hu, ho⟩ := h3 k hk
  exact ⟨u, hu, own_mono ho hb⟩
/-- A write to a block of another element type. -/
theorem OwnM.other {r : Nat} {cs : Array Value} {t : TypeId} (h : OwnM w base e1 e0 v gs) (hg : w.grownBy w' (some r)) (hr : Blk w r t cs) (h1 : e1 ≠ t) (h0 : e0 ≠ t) : OwnM w' base e1 e0 v gs := by
  obtain ⟨vs, h1', h2, h3⟩ := h
  refine ⟨vs, h1'.kept hg (.inr (own_blk_ne h1' hr h1)), h2, fun k hk => ?_⟩
  obtain ⟨u, hu, ho⟩ := h3 k hk
  exact ⟨u, hu, ho.kept hg (.inr (own_blk_ne ho hr h0))⟩
/-- A write below the base. -/
theorem OwnM.low {row : Option Nat} (h : OwnM w base e1 e0 v gs) (hg : w.grownBy w' row) (hr : ∀ r, row = some r → r < base) : OwnM w' base e1 e0 v gs := by
  obtain ⟨vs, h1', h2, h3⟩ := h
  have ne : ∀ {u : Value} {e n xs}, w.ownsRow base e 1 u n xs → u.ownBlock = none ∨ u.ownBlock ≠ row := fun {u e n xs} hu => by
    cases hb : u.ownBlock with
    | none => exact .inl rfl
    | some k => exact .inr (fun e => by have := hr k e.symm; have := (hu.lt k hb).1; omega)
  refine ⟨vs, h1'.kept hg (ne h1'), h2, fun k hk => ?_⟩
  obtain ⟨u, hu, ho⟩ := h3 k hk
  exact ⟨u, hu, ho.kept hg (ne ho)⟩
/-- Behind an append of one row. -/
theorem OwnM.push {u v' : Value} {xs : List Value} (h : OwnM w base e1 e0 v gs) (hne : e0 ≠ e1) (hu : w.ownsRow base e0 1 u xs.length xs)
    {n : Nat} {vs : List Value} (hv : w.ownsRow base e1 1 v n vs) (hg : w.grownBy w' v.ownBlock) (hown : w'.ownsRow base e1 1 v' (n + 1) (vs ++ [u])) : OwnM w' base e1 e0 v' (gs ++ [xs]) := by
  obtain ⟨vs0, h1, h2, h3⟩ := h
  obtain ⟨rfl, rfl⟩ : n = gs.length ∧ vs = vs0 := by
    have a := h1.1; have b := hv.1
    rcases h1.2 with ⟨e, hz⟩ | ⟨g, cap, cur, e, _, hh, _, _, _, ht⟩
    · subst e
      rcases hv.2 with ⟨_, hz'⟩ | ⟨g', cap', cur', e', _⟩
      · subst hz'; rw [hz] at a ⊢; simp at a b; exact ⟨rfl, by rw [a, b]⟩
      · cases e'
    · subst e
      rcases hv.2 with ⟨e', _⟩ | ⟨g', cap', cur', e', _, hh', _, _, _, ht'⟩
      · cases e'
      · injection e' with e1' e2' e3'
        injection e1' with e1'
        injection e1' with e1'
        subst e1'
        rw [hh] at hh'; injection hh' with hh'; injection hh' with hh'
        subst hh' 
        rw [← e2'] at ht' ⊢
        exact ⟨rfl, by rw [← ht, ← ht']⟩
  refine ⟨vs ++ [u], by simpa using hown, by simp [h2], fun k hk => ?_⟩
  by_cases hlt : k < gs.length
  · obtain ⟨u', hu', ho⟩ := h3 k hlt
    refine ⟨u', by rw [List.getElem?_append_left (by omega)]; exact hu', ?_⟩
    rw [List.getElem_append_left hlt]
    exact ho.kept hg (own_own_ne ho hv hne)
  · simp at hk
    obtain rfl : k = gs.length := by omega
    refine ⟨u, by rw [← h2]; simp, ?_⟩
    rw [List.getElem_append_right (by omega)]
    simp only [Nat.sub_self, List.getElem_cons_zero]
    exact hu.kept hg (own_own_ne hu hv hne)
/-- What a reader of one row meets. -/
theorem OwnM.at_ (h : OwnM w base e1 e0 v gs) {k : Nat} (hk : k < gs.length) :
    ∃ (g c : Nat) (u : Value), v = .slice (some ⟨g, 0, none⟩) gs.length c ∧ w.cell? ⟨g, k, none⟩ = some u ∧ w.ownsRow base e0 1 u gs[k].length gs[k] := by
  obtain ⟨vs, h1, h2, h3⟩ := h
  obtain ⟨u, hu, ho⟩ := h3 k hk
  obtain ⟨g, c, hv, _, _⟩ := h1.form (by omega)
  subst hv
  exact ⟨g, c, u, rfl, by rw [h1.cellAt k (by omega)]; exact hu, ho⟩
theorem OwnM.form (h : OwnM w base e1 e0 v gs) : ∃ A c, v = .slice A gs.length c ∧ gs.length ≤ c ∧ c ≤ maxLen := by
  obtain ⟨vs, h1, _⟩ := h
  exact ownsRow_form h1
end
end Go.Proofs.YtgkpoopiamicnaaGreatDoor
namespace Go.Proofs.YtgkpoopiamicnaaGreatDoor
open Go.RowKit

abbrev strM (gs : List (List ByteArray)) : List (List Value) := gs.map (·.map Value.string)
/-- The reference's alphabet in block g. -/
def RefAlph (w : World) (g : Nat) (gs : List (List ByteArray)) : Prop :=
  ∃ base v, Blk w g 108 #[.bool true, v] ∧ OwnM w base 22 9 v (strM gs)
theorem RefAlph.below {w w' : World} {g : Nat} {gs : List (List ByteArray)} (h : RefAlph w g gs) (hb : Below w.heap.size w w') : RefAlph w' g gs := by
  obtain ⟨base, v, h1, h2⟩ := h
  exact ⟨base, v, h1.below hb h1.lt, h2.below hb⟩

theorem refmade_any (g : Nat) (gs : List (List ByteArray)) (w : World) (h : RefAlph w g gs) :
    Calls Tryz.prog 101 #[.pointer (some ⟨g, 0, none⟩)] w fun e w' => e = .returned (.bool true) ∧ w = w' := by
  obtain ⟨base, v, h1, h2⟩ := h
  have hc := h1.cell 0
  simp only [List.getElem?_toArray, List.getElem?_cons_zero] at hc
  clear h1 h2
  go_enter Tryz.func101, Tryz.ntmps101
  go_wp2
  go_ret
  exact ⟨rfl, rfl⟩

theorem flatten_take_succ {gs : List (List ByteArray)} {k : Nat} (hk : k < gs.length) : (gs.take (k + 1)).flatten = (gs.take k).flatten ++ gs[k] := by
  rw [List.take_succ_eq_append_getElem hk, List.flatten_append]; simp
theorem flatten_take_le (gs : List (List ByteArray)) (k : Nat) : (gs.take k).flatten.length ≤ gs.flatten.length := by
  conv => rhs; rw [← List.take_append_drop k gs, List.flatten_append, List.length_append]
  omega

set_option maxRecDepth 20000 in
set_option maxHeartbeats 1000000 in
theorem refLetters_any (g : Nat) (gs : List (List ByteArray)) (w : World) (h : RefAlph w g gs) (hl : gs.flatten.length ≤ 16384) (hgl : gs.length ≤ maxLen) :
    Calls Tryz.prog 48 #[.pointer (some ⟨g, 0, none⟩)] w (GivesS w gs.flatten) := by
  obtain ⟨i0, hi, hz0, hz1, hz2⟩ := info_parts info_string
  have hmade := refmade_any g gs w h
  obtain ⟨base, v, hg, hM⟩ := h
  have hgl' := hgl
  unfold maxLen at hgl
  obtain ⟨A, c, rfl, hc1, hc2⟩ := hM.form
  have hm := Lib.hid hM
  clear hM
  have hglt := hg.lt
  have hc := hg.cell 1
  simp only [List.getElem?_toArray, List.getElem?_cons_succ, List.getElem?_cons_zero] at hc
  clear hg
  have HL := Lib.hid (show (strM gs).length = gs.length by simp)
  rw [HL.out] at hc hc1
  go_enter Tryz.func48, Tryz.ntmps48
  go_wp2_with (go_at_call 101; refine hmade.mono ?_; rintro e w' ⟨rfl, rfl⟩)
  go_loopw [3, 4] (fun v i wr => ∃ (k : Nat), k ≤ gs.length ∧ i = .int .i64 k ∧ wr.ownsRow w.heap.size 9 1 v (gs.take k).flatten.length ((gs.take k).flatten.map Value.string) ∧ Below w.heap.size w wr) (fun _ i _ => gs.length - (RowKit.intOf i).toNat)
  case atStart => exact ⟨0, by omega, rfl, World.ownsRow_nil _ _ _ _, Below.refl _ _⟩
  case round =>
    obtain ⟨k, hk, rfl, hown, hb⟩ := hrel
    have hcr := (hb.cell (p := ⟨g, 1, none⟩) hglt).trans hc
    by_cases hlt : k < gs.length
    · obtain ⟨g', c', u, hv, hcu, hu⟩ := hm.out.at_ (k := k) (by simpa using hlt)
      obtain ⟨A', n', rfl, hn1, hn2⟩ := ownsRow_form hu
      have hR := Reads.of_own hu
      simp only [List.getElem_map, List.length_map] at hR hcu hu
      rw [HL.out] at hv
      injection hv with hv1 hv2 hv3
      subst hv1 hv3
      have hg' : g' < w.heap.size := by
        rcases Nat.lt_or_ge g' w.heap.size with h | h
        · exact h
        · rw [World.cell?, Array.getElem?_eq_none h] at hcu; cases hcu
      have hcur := (hb.cell (p := ⟨g', k, none⟩) hg').trans hcu
      have hRr := hR.below hb
      have hfl := flatten_take_succ hlt
      have hfle := flatten_take_le gs (k + 1)
      rw [hfl, List.length_append] at hfle
      have HF := Lib.hid hfl
      clear hfl hcu hu hR hcr
      have hcr := (hb.cell (p := ⟨g, 1, none⟩) hglt).trans hc
      clear hc hn1 hn2
      go_wp2_with (at_builtin; refine wpList_append_any _ rfl _ _ _ rfl w.heap.size 9 i0 (.string ByteArray.empty) 1 16 Tryz.underlying22 hi hz0 hz1 hz2 rfl (by decide) _ _ _ rfl hown w.heap.size _ _ _ (gs[k].map Value.string) rfl hRr (by intro u hu; obtain ⟨x, _, rfl⟩ := List.mem_map.1 hu; rfl) (by unfold maxLen; omega) (by omega) hb.size ?_; intro v' w1 hown' hgrow _)
      have hb1 : Below w.heap.size w w1 := hb.grown hgrow hb.size (fun g hg => (hown.lt g hg).1)
      clear hgrow hown
      go_roundw
      case rel => exact ⟨k + 1, by omega, by go_num, by rw [HF.out]; simpa using hown', hb1⟩
      case measure => simp [RowKit.intOf]; omega
    · obtain rfl : k = gs.length := by omega
      rw [List.take_length] at hown
      go_wp2
      go_ret
      exact ⟨_, rfl, hown, hb⟩
end Go.Proofs.YtgkpoopiamicnaaGreatDoor
namespace Go.Proofs.YtgkpoopiamicnaaGreatDoor
open Go.RowKit

def totalS (ss : List ByteArray) : Nat := (ss.map ByteArray.size).sum
def fewB (ss : List ByteArray) (most bytes : Int) : Bool := decide ((ss.length : Int) ≤ most) && decide ((totalS ss : Int) ≤ bytes)

theorem wrap_add (a b : Int) : wrap64 (wrap64 a + b) = wrap64 (a + b) := by unfold wrap64; omega
theorem totalS_succ (ss : List ByteArray) (k : Nat) (hk : k < ss.length) : totalS (ss.take (k + 1)) = totalS (ss.take k) + ss[k].size := by
  unfold totalS
  rw [List.take_succ_eq_append_getElem hk, List.map_append, List.sum_append]; simp
theorem totalS_le (ss : List ByteArray) (hs : ∀ s ∈ ss, okS s) : totalS ss ≤ ss.length * 140737488351232 := by
  unfold totalS
  induction ss with
  | nil => simp
  | cons a l ih =>
    have h1 := hs a (by simp)
    have h2 := ih (fun s h => hs s (by simp [h]))
    unfold okS at h1
    simp only [List.map_cons, List.sum_cons, List.length_cons, Nat.add_mul]
    omega
theorem fewB_long {ss : List ByteArray} {most bytes : Int} (h : most < ss.length) : fewB ss most bytes = false := by
  unfold fewB; rw [decide_eq_false (by omega)]; rfl
theorem fewB_short {ss : List ByteArray} {most bytes : Int} (h : (ss.length : Int) ≤ most) : fewB ss most bytes = decide ((totalS ss : Int) ≤ bytes) := by
  unfold fewB; rw [decide_eq_true h]; rfl

end Go.Proofs.YtgkpoopiamicnaaGreatDoor
