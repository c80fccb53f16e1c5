/-
  Layer 40: articles, plainly and in memory that lies in some blocks. Conditions: none.
-/
import Derived.Test.YtgkpoopiamicnaaGreatDoorZbai
import Derived.Test.YtgkpoopiamicnaaGreatDoorZbab
import Derived.Test.YtgkpoopiamicnaaGreatDoorZbah
import Derived.Test.YtgkpoopiamicnaaGreatDoorZbad
import Derived.Maps.RangeWalk
namespace Go.Proofs.YtgkpoopiamicnaaGreatDoor
open Go.RowKit Go.Lib

/-- A row that lies in a block of S. -/
def RowF (w : World) (S : Nat → Prop) (k : Nat) (A : Option Addr) (n : Nat) (xs : List Value) : Prop := xs.length = n * k ∧ (0 < n → ∃ a, A = some a ∧ S a.block ∧ ∀ j u, xs[j]? = some u → w.cell? (a.add j) = some u)
section
variable {w w' : World} {S S' : Nat → Prop} {k n B : Nat} {A : Option Addr} {xs : List Value}
theorem RowF.keep (h : RowF w S k A n xs) (hs : ∀ b, S b → S' b) (hk : ∀ q : Addr, S q.block → w'.cell? q = w.cell? q) : RowF w' S' k A n xs :=
  ⟨h.1, fun hn => by
    obtain ⟨a, e, h1, h2⟩ := h.2 hn
    exact ⟨a, e, hs _ h1, fun j u hu => (hk _ (by rw [block_of_add]; exact h1)).trans (h2 j u hu)⟩⟩
theorem RowF.reads (h : RowF w S k A n xs) (hs : ∀ b, S b → b < B) : Reads w B k A n xs :=
  ⟨h.1, fun hn => by
    obtain ⟨a, e, h1, h2⟩ := h.2 hn
    exact ⟨a, e, hs _ h1, h2⟩⟩
theorem rowF_of_reads (h : Reads w B k A n xs) : RowF w (fun b => b < B) k A n xs := h
theorem own_rowF {base : Nat} {e : TypeId} {size : Nat} {v : Value} (h : w.ownsRow base e size v n xs) : ∃ A c, v = .slice A n c ∧ n ≤ c ∧ c ≤ maxLen ∧ RowF w (fun b => v.ownBlock = some b) size A n xs := by
  obtain ⟨A, c, rfl, h1, h2⟩ := ownsRow_form h
  have hr := Reads.of_own h
  refine ⟨A, c, rfl, h1, h2, hr.1, fun hn => ?_⟩
  obtain ⟨a, rfl, _, h3⟩ := hr.2 hn
  refine ⟨a, rfl, ?_, h3⟩
  rcases h.2 with ⟨h4, h5⟩ | ⟨g, cap, cur, h4, _⟩
  · cases h4
  · injection h4 with h4 _ _
    injection h4 with h4
    subst h4; rfl
end
/-- Nothing in the blocks of S turns. -/
def KeepS (S : Nat → Prop) (w w' : World) : Prop := ∀ q : Addr, S q.block → w'.cell? q = w.cell? q
theorem keepS_chg {S T : Nat → Prop} {w w' : World} (hc : ChgS T w w') (hl : ∀ b, S b → b < w.heap.size) (hd : ∀ b, S b → ¬ T b) : KeepS S w w' := fun _ hq =>
  World.cell?_of_block (hc.block _ (hl _ hq) (hd _ hq))
theorem keepS_below {S : Nat → Prop} {w w' : World} {B : Nat} (hb : Below B w w') (hl : ∀ b, S b → b < B) : KeepS S w w' := fun _ hq => hb.cell (hl _ hq)
/-! Slices of texts, of sounds. -/
def TxF (w : World) (S : Nat → Prop) (l : List ByteArray) (v : Value) : Prop := ∃ A c, v = .slice A l.length c ∧ (l.length ≤ c ∧ c ≤ maxLen) ∧ RowF w S 1 A l.length (l.map Value.string)
def WdF (w : World) (S : Nat → Prop) (l : List Snd) (v : Value) : Prop := ∃ A c, v = .slice A l.length c ∧ (l.length ≤ c ∧ c ≤ maxLen) ∧ RowF w S 2 A l.length (l.flatMap sndC)
section
variable {w w' : World} {S S' : Nat → Prop}
theorem TxF.keep {l : List ByteArray} {v : Value} (h : TxF w S l v) (hs : ∀ b, S b → S' b) (hk : KeepS S w w') : TxF w' S' l v := by
  obtain ⟨A, c, e, h1, h2⟩ := h
  exact ⟨A, c, e, h1, h2.keep hs hk⟩
theorem WdF.keep {l : List Snd} {v : Value} (h : WdF w S l v) (hs : ∀ b, S b → S' b) (hk : KeepS S w w') : WdF w' S' l v := by
  obtain ⟨A, c, e, h1, h2⟩ := h
  exact ⟨A, c, e, h1, h2.keep hs hk⟩
theorem txF_nil (w : World) (S : Nat → Prop) : TxF w S [] (.slice none 0 0) := ⟨none, 0, rfl, ⟨Nat.le_refl _, by unfold maxLen; omega⟩, rfl, fun h => absurd h (Nat.lt_irrefl _)⟩
theorem wdF_nil (w : World) (S : Nat → Prop) : WdF w S [] (.slice none 0 0) := ⟨none, 0, rfl, ⟨Nat.le_refl _, by unfold maxLen; omega⟩, rfl, fun h => absurd h (Nat.lt_irrefl _)⟩
theorem txF_own {base : Nat} {t : TypeId} {l : List ByteArray} {v : Value} (ho : w.ownsRow base t 1 v l.length (l.map Value.string)) (hv : ∀ b, v.ownBlock = some b → S b) : TxF w S l v := by
  obtain ⟨A, c, rfl, h1, h2, h3⟩ := own_rowF ho
  exact ⟨A, c, rfl, ⟨h1, h2⟩, h3.keep hv (fun _ _ => rfl)⟩
theorem wdF_own {base : Nat} {t : TypeId} {l : List Snd} {v : Value} (ho : w.ownsRow base t 2 v l.length (l.flatMap sndC)) (hv : ∀ b, v.ownBlock = some b → S b) : WdF w S l v := by
  obtain ⟨A, c, rfl, h1, h2, h3⟩ := own_rowF ho
  exact ⟨A, c, rfl, ⟨h1, h2⟩, h3.keep hv (fun _ _ => rfl)⟩
end
/-! Articles. -/
structure Art where
  head : ByteArray
  word : List Snd
  texts : List ByteArray
  see : List ByteArray
def art0 : Art := ⟨⟨#[]⟩, [], [], []⟩
/-- Strings of the reach, numbers of 32 bits. -/
structure ArtOk (x : Art) : Prop where
  head : x.head.size ≤ 140737488351232
  word : ∀ s ∈ x.word, ok32 s
  texts : ∀ s ∈ x.texts, s.size ≤ 140737488351232
  see : ∀ s ∈ x.see, s.size ≤ 140737488351232
theorem artOk0 : ArtOk art0 := ⟨by decide, by simp [art0], by simp [art0], by simp [art0]⟩
def ArtF (w : World) (S : Nat → Prop) (x : Art) (cs : List Value) : Prop := ∃ v1 v2 v3, cs = [.string x.head, v1, v2, v3] ∧ WdF w S x.word v1 ∧ TxF w S x.texts v2 ∧ TxF w S x.see v3
theorem ArtF.keep {w w' : World} {S S' : Nat → Prop} {x : Art} {cs : List Value} (h : ArtF w S x cs) (hs : ∀ b, S b → S' b) (hk : KeepS S w w') : ArtF w' S' x cs := by
  obtain ⟨v1, v2, v3, e, h1, h2, h3⟩ := h
  exact ⟨v1, v2, v3, e, h1.keep hs hk, h2.keep hs hk, h3.keep hs hk⟩
theorem artF0 (w : World) (S : Nat → Prop) : ArtF w S art0 [.string ⟨#[]⟩, .slice none 0 0, .slice none 0 0, .slice none 0 0] := ⟨_, _, _, rfl, wdF_nil w S, txF_nil w S, txF_nil w S⟩
theorem ArtF.len {w : World} {S : Nat → Prop} {x : Art} {cs : List Value} (h : ArtF w S x cs) : cs.length = 4 := by
  obtain ⟨v1, v2, v3, rfl, _⟩ := h; rfl
/-- The cells, each slice written out. -/
theorem ArtF.form {w : World} {S : Nat → Prop} {x : Art} {cs : List Value} (h : ArtF w S x cs) : ∃ A1 c1 A2 c2 A3 c3, cs = [.string x.head, .slice A1 x.word.length c1, .slice A2 x.texts.length c2, .slice A3 x.see.length c3] := by
  obtain ⟨v1, v2, v3, rfl, ⟨A1, c1, rfl, _⟩, ⟨A2, c2, rfl, _⟩, ⟨A3, c3, rfl, _⟩⟩ := h
  exact ⟨A1, c1, A2, c2, A3, c3, rfl⟩
/-! Rows of things whose parts lie in blocks of S. -/
section
variable {α : Type} {F F' : World → (Nat → Prop) → α → List Value → Prop} {w w' : World} {S S' : Nat → Prop}
def RowsF (F : World → (Nat → Prop) → α → List Value → Prop) (w : World) (S : Nat → Prop) : List α → List Value → Prop
  | [], xs => xs = []
  | x :: l, xs => ∃ c1 c2, xs = c1 ++ c2 ∧ F w S x c1 ∧ RowsF F w S l c2
theorem RowsF.imp : ∀ {l : List α} {xs : List Value}, RowsF F w S l xs → (∀ x cs, F w S x cs → F' w' S' x cs) → RowsF F' w' S' l xs
  | [], _, h, _ => h
  | x :: _, _, ⟨c1, c2, e, h1, h2⟩, hi => ⟨c1, c2, e, hi x c1 h1, RowsF.imp h2 hi⟩
theorem RowsF.append {x : α} {c2 : List Value} (h2 : F w S x c2) : ∀ {l : List α} {c1 : List Value}, RowsF F w S l c1 → RowsF F w S (l ++ [x]) (c1 ++ c2)
  | [], c1, h => by
    subst h
    exact ⟨c2, [], by simp, h2, rfl⟩
  | y :: l, c1, ⟨d1, d2, e, k1, k2⟩ => ⟨d1, d2 ++ c2, by rw [e, List.append_assoc], k1, RowsF.append h2 k2⟩
theorem RowsF.app {m : List α} {c2 : List Value} (h2 : RowsF F w S m c2) : ∀ {l : List α} {c1 : List Value}, RowsF F w S l c1 → RowsF F w S (l ++ m) (c1 ++ c2)
  | [], c1, h => by subst h; exact h2
  | y :: l, c1, ⟨d1, d2, e, k1, k2⟩ => ⟨d1, d2 ++ c2, by rw [e, List.append_assoc], k1, RowsF.app h2 k2⟩
theorem RowsF.len {k : Nat} (hk : ∀ x cs, F w S x cs → cs.length = k) : ∀ {l : List α} {xs : List Value}, RowsF F w S l xs → xs.length = l.length * k
  | [], _, h => by subst h; simp
  | x :: l, _, ⟨c1, c2, e, h1, h2⟩ => by
    rw [e, List.length_append, hk x c1 h1, RowsF.len hk h2, List.length_cons, Nat.succ_mul, Nat.add_comm]
theorem RowsF.at_ {k : Nat} (hk : ∀ x cs, F w S x cs → cs.length = k) : ∀ {l : List α} {xs : List Value}, RowsF F w S l xs → ∀ (i : Nat) (hi : i < l.length), ∃ cs, F w S l[i] cs ∧ (xs.drop (i * k)).take k = cs ∧ ∀ j u, cs[j]? = some u → xs[i * k + j]? = some u
  | [], _, _, i, hi => absurd hi (Nat.not_lt_zero _)
  | x :: l, _, ⟨c1, c2, e, h1, h2⟩, 0, _ => by
    have hl := hk x c1 h1
    refine ⟨c1, h1, ?_, fun j u hu => ?_⟩
    · rw [e, Nat.zero_mul, List.drop_zero, List.take_append_of_le_length (by omega), List.take_of_length_le (by omega)]
    · rw [e, Nat.zero_mul, Nat.zero_add, List.getElem?_append_left (List.getElem?_eq_some_iff.1 hu).1]
      exact hu
  | x :: l, _, ⟨c1, c2, e, h1, h2⟩, i + 1, hi => by
    obtain ⟨cs, h3, h5, h4⟩ := RowsF.at_ hk h2 i (Nat.lt_of_succ_lt_succ hi)
    have hl := hk x c1 h1
    refine ⟨cs, h3, ?_, fun j u hu => ?_⟩
    · have e2 : (i + 1) * k = c1.length + i * k := by rw [hl, Nat.succ_mul, Nat.add_comm]
      rw [← h5, e, e2, List.drop_length_add_append]
    · rw [e, List.getElem?_append_right (by rw [hl, Nat.succ_mul]; omega), hl, show (i + 1) * k + j - k = i * k + j by rw [Nat.succ_mul]; omega]
      exact h4 j u hu
theorem RowsF.take_ {k : Nat} (hk : ∀ x cs, F w S x cs → cs.length = k) : ∀ {l : List α} {xs : List Value} (i : Nat), RowsF F w S l xs → RowsF F w S (l.take i) (xs.take (i * k))
  | [], _, i, h => by subst h; simp [RowsF]
  | x :: l, _, 0, _ => by simp [RowsF]
  | x :: l, _, i + 1, ⟨c1, c2, e, h1, h2⟩ => by
    have hl := hk x c1 h1
    refine ⟨c1, c2.take (i * k), ?_, h1, RowsF.take_ hk i h2⟩
    have e2 : (i + 1) * k = c1.length + i * k := by rw [hl, Nat.succ_mul, Nat.add_comm]
    rw [e, e2, List.take_length_add_append]
theorem RowsF.drop_ {k : Nat} (hk : ∀ x cs, F w S x cs → cs.length = k) : ∀ {l : List α} {xs : List Value} (i : Nat), RowsF F w S l xs → RowsF F w S (l.drop i) (xs.drop (i * k))
  | [], _, i, h => by subst h; simp [RowsF]
  | x :: l, _, 0, h => by simpa using h
  | x :: l, _, i + 1, ⟨c1, c2, e, h1, h2⟩ => by
    have hl := hk x c1 h1
    have e2 : (i + 1) * k = c1.length + i * k := by rw [hl, Nat.succ_mul, Nat.add_comm]
    rw [List.drop_succ_cons, e, e2, List.drop_length_add_append]
    exact RowsF.drop_ hk i h2
/-- A slice of such things. -/
def SlF (F : World → (Nat → Prop) → α → List Value → Prop) (k : Nat) (w : World) (S : Nat → Prop) (l : List α) (v : Value) : Prop :=
  ∃ A c xs, v = .slice A l.length c ∧ (l.length ≤ c ∧ c ≤ maxLen) ∧ RowF w S k A l.length xs ∧ RowsF F w S l xs
theorem SlF.imp {k : Nat} {l : List α} {v : Value} (h : SlF F k w S l v) (hs : ∀ b, S b → S' b) (hk : KeepS S w w') (hi : ∀ x cs, F w S x cs → F' w' S' x cs) : SlF F' k w' S' l v := by
  obtain ⟨A, c, xs, e, h1, h2, h3⟩ := h
  exact ⟨A, c, xs, e, h1, h2.keep hs hk, h3.imp hi⟩
theorem SlF.form {k : Nat} {l : List α} {v : Value} (h : SlF F k w S l v) : ∃ A c, v = .slice A l.length c ∧ l.length ≤ c ∧ c ≤ maxLen := by
  obtain ⟨A, c, xs, e, h1, _⟩ := h
  exact ⟨A, c, e, h1⟩
theorem slF_nil (F : World → (Nat → Prop) → α → List Value → Prop) (k : Nat) (w : World) (S : Nat → Prop) : SlF F k w S [] (.slice none 0 0) :=
  ⟨none, 0, [], rfl, ⟨Nat.le_refl _, by unfold maxLen; omega⟩, ⟨by simp, fun h => absurd h (Nat.lt_irrefl _)⟩, rfl⟩
/-- What one has made of one's own. -/
theorem slF_own {k base : Nat} {t : TypeId} {l : List α} {v : Value} {xs : List Value} (ho : w.ownsRow base t k v l.length xs) (hv : ∀ b, v.ownBlock = some b → S b) (hp : RowsF F w S l xs) : SlF F k w S l v := by
  obtain ⟨A, c, rfl, h1, h2, h3⟩ := own_rowF ho
  exact ⟨A, c, xs, rfl, ⟨h1, h2⟩, h3.keep hv (fun _ _ => rfl), hp⟩
theorem SlF.at_ {k : Nat} {l : List α} {A : Option Addr} {n c : Nat} (h : SlF F k w S l (.slice A n c)) (hk : ∀ x cs, F w S x cs → cs.length = k) {i : Nat} (hi : i < l.length) :
    ∃ ad cs, A = some ad ∧ S ad.block ∧ F w S l[i] cs ∧ ∀ j u, cs[j]? = some u → w.cell? (ad.add (i * k + j)) = some u := by
  obtain ⟨A', c', xs, e, h1, h2, h3⟩ := h
  injection e with e1 e2 e3
  subst e1
  obtain ⟨ad, e, hb, hc⟩ := h2.2 (by omega)
  obtain ⟨cs, h4, _, h5⟩ := h3.at_ hk i hi
  exact ⟨ad, cs, e, hb, h4, fun j u hu => hc _ _ (h5 j u hu)⟩
end
abbrev ArtsF := SlF ArtF 4
theorem ArtsF.keep {w w' : World} {S S' : Nat → Prop} {l : List Art} {v : Value} (h : ArtsF w S l v) (hs : ∀ b, S b → S' b) (hk : KeepS S w w') : ArtsF w' S' l v := h.imp hs hk fun _ _ h => h.keep hs hk
/-- Lists of texts. -/
def LxF (w : World) (S : Nat → Prop) (l : List ByteArray) (cs : List Value) : Prop := ∃ v, cs = [v] ∧ TxF w S l v
abbrev LlF := SlF LxF 1
theorem LlF.keep {w w' : World} {S S' : Nat → Prop} {l : List (List ByteArray)} {v : Value} (h : LlF w S l v) (hs : ∀ b, S b → S' b) (hk : KeepS S w w') : LlF w' S' l v := h.imp hs hk fun _ _ ⟨v, e, h⟩ => ⟨v, e, h.keep hs hk⟩
/-- What is new since. -/
abbrev NewS (w W : World) : Nat → Prop := fun b => w.heap.size ≤ b ∧ b < W.heap.size
abbrev aggM (cs : List Value) : Value := .agg cs.toArray
end Go.Proofs.YtgkpoopiamicnaaGreatDoor
namespace Go.Proofs.YtgkpoopiamicnaaGreatDoor
open Go.RowKit Go.Lib

abbrev Grps := List (List ByteArray)
def keyOk (gs : Grps) (s : ByteArray) : Prop := (readRes gs s).1 = 0
def ordT (gs : Grps) (s t : ByteArray) : Int := (orderRes (readRes gs s) (readRes gs t) s t).1
theorem errTwo_zero {r1 r2 : Res} : errTwo r1 r2 = 0 ↔ r1.1 = 0 ∧ r2.1 = 0 := by
  unfold errTwo
  by_cases h : r1.1 = 0
  · rw [if_pos h]; exact ⟨fun h2 => ⟨h, h2⟩, fun h2 => h2.2⟩
  · rw [if_neg h]; exact ⟨fun h2 => absurd h2 h, fun h2 => absurd h2.1 h⟩
theorem ordT_ok {gs : Grps} {s t : ByteArray} (hs : keyOk gs s) (ht : keyOk gs t) : ordT gs s t = beforeV (keyS (readRes gs s).2) (keyS (readRes gs t).2) s t := by
  unfold ordT orderRes
  rw [if_pos (errTwo_zero.2 ⟨hs, ht⟩)]
theorem ordT_bad {gs : Grps} {s t : ByteArray} (h : ¬ (keyOk gs s ∧ keyOk gs t)) : ordT gs s t = 0 := by
  unfold ordT orderRes
  rw [if_neg (fun e => h (errTwo_zero.1 e))]
theorem goodO (gs : Grps) : GoodO (ordT gs) (keyOk gs) where
  anti s t := by
    by_cases h : keyOk gs s ∧ keyOk gs t
    · rw [ordT_ok h.1 h.2, ordT_ok h.2 h.1]; exact beforeV_anti _ _ _ _
    · rw [ordT_bad h, ordT_bad (fun e => h ⟨e.2, e.1⟩)]; rfl
  range s t := by
    by_cases h : keyOk gs s ∧ keyOk gs t
    · rw [ordT_ok h.1 h.2]; exact beforeV_range _ _ _ _
    · rw [ordT_bad h]; exact .inr (.inl rfl)
  trans s t u hs ht hu h1 h2 := by
    rw [ordT_ok hs ht] at h1
    rw [ordT_ok ht hu] at h2
    rw [ordT_ok hs hu]
    exact beforeV_trans _ _ _ _ _ _ h1 h2
  zero s t hs ht h := by
    rw [ordT_ok hs ht] at h
    exact beforeV_zero h
/-! Which articles are refused. -/
def headB (gs : Grps) (s : ByteArray) : Bool := !decide (s.size = 0) && (decide (s.size ≤ 64) && decide ((readRes gs s).1 = 0))
def lineB (s : ByteArray) : Bool := !decide (s.size = 0) && (decide (s.size ≤ 200) && (bl s).all fun c => decide (32 ≤ c.toNat))
theorem headB_iff {gs : Grps} {s : ByteArray} : headB gs s = true ↔ s.size ≠ 0 ∧ s.size ≤ 64 ∧ keyOk gs s := by
  unfold headB keyOk
  simp [Bool.and_eq_true]
/-- A text that stood ahead. -/
def twiceB : List ByteArray → Bool
  | [] => false
  | s :: l => memB l s || twiceB l
theorem twiceB_iff {l : List ByteArray} : twiceB l = false ↔ l.Nodup := by
  induction l with
  | nil => simp [twiceB]
  | cons s l ih =>
    unfold twiceB
    rw [Bool.or_eq_false_iff, List.nodup_cons, ih]
    refine and_congr ?_ Iff.rfl
    rw [← memB_iff]
    simp
def headsL (L : List Art) : List ByteArray := L.map Art.head
def thereB (L : List Art) (s : ByteArray) : Bool := memB (headsL L) s
theorem thereB_iff {L : List Art} {s : ByteArray} : thereB L s = true ↔ ∃ x ∈ L, x.head = s := by
  unfold thereB headsL
  rw [memB_iff, List.mem_map]
def artE (gs : Grps) (L : List Art) (x : Art) : Int :=
  if wordE x.word ≠ 0 then wordE x.word else
  if headB gs x.head = false then 10 else
  if 16 < x.texts.length ∨ 16 < x.see.length then 12 else
  if x.texts.all lineB = false then 2 else
  if x.see.all (headB gs) = false then 10 else
  if twiceB x.see = true then 6 else
  if thereB L x.head = true then 6 else
  if 1024 ≤ L.length then 4 else 0
/-- An article that can stand in a dictionary. -/
structure GoodA (gs : Grps) (x : Art) : Prop where
  ok : ArtOk x
  word : wordE x.word = 0
  head : headB gs x.head = true
  texts : x.texts.length ≤ 16 ∧ x.texts.all lineB = true
  see : x.see.length ≤ 16 ∧ x.see.all (headB gs) = true ∧ x.see.Nodup
/-- The articles of a dictionary, in order. -/
structure GoodD (gs : Grps) (L : List Art) : Prop where
  sorted : SortedT (ordT gs) (headsL L)
  arts : ∀ x ∈ L, GoodA gs x
  len : L.length ≤ 1024
theorem goodD_nil (gs : Grps) : GoodD gs [] := ⟨List.Pairwise.nil, by simp, by simp⟩
theorem GoodA.key {gs : Grps} {x : Art} (h : GoodA gs x) : keyOk gs x.head := (headB_iff.1 h.head).2.2
theorem GoodA.size {gs : Grps} {x : Art} (h : GoodA gs x) : x.head.size ≤ 64 := (headB_iff.1 h.head).2.1
theorem GoodD.keys {gs : Grps} {L : List Art} (h : GoodD gs L) : ∀ s ∈ headsL L, keyOk gs s := fun s hs => by
  obtain ⟨x, hx, rfl⟩ := List.mem_map.1 hs
  exact (h.arts x hx).key
theorem GoodD.nodup {gs : Grps} {L : List Art} (h : GoodD gs L) : (headsL L).Nodup := h.sorted.nodup (goodO gs)
theorem GoodD.inj {gs : Grps} {L : List Art} (h : GoodD gs L) {x y : Art} (hx : x ∈ L) (hy : y ∈ L) (e : x.head = y.head) : x = y := by
  have hn := h.nodup
  clear h
  induction L with
  | nil => cases hx
  | cons z L ih =>
    unfold headsL at hn
    rw [List.map_cons, List.nodup_cons] at hn
    rcases List.mem_cons.1 hx with e1 | hx1
    · rcases List.mem_cons.1 hy with e2 | hy1
      · rw [e1, e2]
      · exact absurd (List.mem_map.2 ⟨y, hy1, by rw [← e, e1]⟩) hn.1
    · rcases List.mem_cons.1 hy with e2 | hy1
      · exact absurd (List.mem_map.2 ⟨x, hx1, by rw [e, e2]⟩) hn.1
      · exact ih hx1 hy1 hn.2
/-- The place of a head: how many heads come before a text. -/
def placeT (gs : Grps) (L : List Art) (s : ByteArray) : Nat := (headsL L).countP fun y => decide (ordT gs y s < 0)
def insA (gs : Grps) (x : Art) (L : List Art) : List Art := L.take (placeT gs L x.head) ++ x :: L.drop (placeT gs L x.head)
theorem placeT_le (gs : Grps) (L : List Art) (s : ByteArray) : placeT gs L s ≤ L.length := by
  have := List.countP_le_length (p := fun y => decide (ordT gs y s < 0)) (l := headsL L)
  unfold placeT
  simp only [headsL, List.length_map] at *
  exact this
theorem insA_heads {gs : Grps} {x : Art} {L : List Art} : headsL (insA gs x L) = (headsL L).take (placeT gs L x.head) ++ x.head :: (headsL L).drop (placeT gs L x.head) := by
  unfold insA headsL
  rw [List.map_append, List.map_cons, List.map_take, List.map_drop]
theorem insA_insT {gs : Grps} {x : Art} {L : List Art} (h : GoodD gs L) (hx : keyOk gs x.head) : headsL (insA gs x L) = insT (ordT gs) x.head (headsL L) := by
  have ha := h.sorted.ahead (goodO gs) h.keys hx
  rw [insA_heads]
  unfold placeT insT
  rw [ahead_take ha, ahead_drop ha]
theorem insA_mem {gs : Grps} {x y : Art} {L : List Art} : y ∈ insA gs x L ↔ y = x ∨ y ∈ L := by
  unfold insA
  rw [List.mem_append, List.mem_cons]
  conv => rhs; rw [← List.take_append_drop (placeT gs L x.head) L, List.mem_append]
  constructor
  · rintro (h | h | h)
    · exact .inr (.inl h)
    · exact .inl h
    · exact .inr (.inr h)
  · rintro (h | h | h)
    · exact .inr (.inl h)
    · exact .inl h
    · exact .inr (.inr h)
theorem insA_len {gs : Grps} {x : Art} {L : List Art} : (insA gs x L).length = L.length + 1 := by
  unfold insA
  have := placeT_le gs L x.head
  simp
  omega
theorem artE_good {gs : Grps} {L : List Art} {x : Art} (h : artE gs L x = 0) (hok : ArtOk x) : GoodA gs x ∧ thereB L x.head = false ∧ L.length < 1024 := by
  unfold artE at h
  by_cases h1 : wordE x.word = 0
  · rw [if_neg (by simp [h1])] at h
    by_cases h2 : headB gs x.head = false
    · rw [if_pos h2] at h; omega
    rw [if_neg h2] at h
    by_cases h3 : 16 < x.texts.length ∨ 16 < x.see.length
    · rw [if_pos h3] at h; omega
    rw [if_neg h3] at h
    by_cases h4 : x.texts.all lineB = false
    · rw [if_pos h4] at h; omega
    rw [if_neg h4] at h
    by_cases h5 : x.see.all (headB gs) = false
    · rw [if_pos h5] at h; omega
    rw [if_neg h5] at h
    by_cases h6 : twiceB x.see = true
    · rw [if_pos h6] at h; omega
    rw [if_neg h6] at h
    by_cases h7 : thereB L x.head = true
    · rw [if_pos h7] at h; omega
    rw [if_neg h7] at h
    by_cases h8 : 1024 ≤ L.length
    · rw [if_pos h8] at h; omega
    exact ⟨⟨hok, h1, by simpa using h2, ⟨by omega, by simpa using h4⟩, ⟨by omega, by simpa using h5, twiceB_iff.1 (by simpa using h6)⟩⟩, by simpa using h7, by omega⟩
  · rw [if_pos h1] at h
    exact absurd h h1
theorem GoodD.put {gs : Grps} {L : List Art} {x : Art} (h : GoodD gs L) (hok : ArtOk x) (he : artE gs L x = 0) : GoodD gs (insA gs x L) := by
  obtain ⟨h1, h2, h3⟩ := artE_good he hok
  refine ⟨?_, fun y hy => ?_, by rw [insA_len]; omega⟩
  · rw [insA_insT h h1.key]
    exact insT_sorted (goodO gs) h.sorted h.keys h1.key (fun hm => by
      rw [← memB_iff] at hm
      unfold thereB at h2
      rw [h2] at hm; cases hm)
  · rcases insA_mem.1 hy with rfl | hy
    · exact h1
    · exact h.arts y hy
/-- An article taken out. -/
def delA (s : ByteArray) (L : List Art) : List Art := L.filter fun y => !decide (y.head = s)
theorem delA_heads {s : ByteArray} {L : List Art} : headsL (delA s L) = (headsL L).filter fun y => !decide (y = s) := by
  unfold delA headsL
  rw [List.filter_map]; rfl
theorem GoodD.del {gs : Grps} {L : List Art} {s : ByteArray} (h : GoodD gs L) : GoodD gs (delA s L) := by
  refine ⟨?_, fun x hx => h.arts x (List.mem_filter.1 hx).1, Nat.le_trans (List.length_filter_le _ _) h.len⟩
  rw [delA_heads]
  exact List.Pairwise.sublist List.filter_sublist h.sorted
/-- The article with a head. -/
def getA (L : List Art) (s : ByteArray) : Option Art := L.find? fun x => decide (x.head = s)
theorem getA_some {L : List Art} {s : ByteArray} {x : Art} (h : getA L s = some x) : x ∈ L ∧ x.head = s := by
  have h1 := List.find?_some h
  exact ⟨List.mem_of_find?_eq_some h, by simpa using h1⟩
theorem getA_none {L : List Art} {s : ByteArray} : getA L s = none ↔ thereB L s = false := by
  unfold getA
  rw [List.find?_eq_none]
  constructor
  · intro h
    cases ht : thereB L s with
    | false => rfl
    | true =>
      obtain ⟨x, hx, e⟩ := thereB_iff.1 ht
      exact absurd (decide_eq_true e) (h x hx)
  · intro h x hx e
    rw [thereB_iff.2 ⟨x, hx, of_decide_eq_true e⟩] at h; cases h
theorem getA_mem {gs : Grps} {L : List Art} {x : Art} (h : GoodD gs L) (hx : x ∈ L) : getA L x.head = some x := by
  cases hg : getA L x.head with
  | none => rw [getA_none, ← Bool.not_eq_true, thereB_iff] at hg; exact absurd ⟨x, hx, rfl⟩ hg
  | some y =>
    obtain ⟨h1, h2⟩ := getA_some hg
    rw [h.inj h1 hx h2]
theorem getA_is {L : List Art} {s : ByteArray} : (getA L s).isSome = thereB L s := by
  cases h : getA L s with
  | none => exact (getA_none.1 h).symm
  | some x =>
    obtain ⟨h1, h2⟩ := getA_some h
    exact (thereB_iff.2 ⟨x, h1, h2⟩).symm
end Go.Proofs.YtgkpoopiamicnaaGreatDoor
namespace Go.Proofs.YtgkpoopiamicnaaGreatDoor
open Go.RowKit Go.Maps Go.WideMaps

def heldR (v : Value) : Option (DataW Value × List MemPlace) := some (.held v, [])
abbrev klT (s : ByteArray) : Lit := .string s.data.toList
theorem klT_lit (s : ByteArray) : WideAt.IsKeyLit (klT s) := by first | trivial | rfl | (unfold WideAt.IsKeyLit; trivial)
theorem klT_inj {s t : ByteArray} (h : klT s = klT t) : s = t := by
  injection h with h
  obtain ⟨⟨l⟩⟩ := s; obtain ⟨⟨l'⟩⟩ := t
  simp only at h; rw [h]
/-- A map of n texts; what it holds. -/
def MapH (w : World) (b n : Nat) (f : ByteArray → Option Value) : Prop :=
  ∃ D : DataW Value, w.ownsMap Tryz.prog 9 heldR b n D ∧ Tidy D ∧ Maps.size D = n ∧ ∀ s : ByteArray, has D (klT s) = (f s).isSome ∧ ∀ v, f s = some v → ∀ z, D.atKey (klT s) z = .held v
section
variable {w w' : World} {b n r : Nat} {f : ByteArray → Option Value}
theorem MapH.lt (h : MapH w b n f) : b < w.heap.size := by
  obtain ⟨D, h1, _⟩ := h; exact h1.lt
theorem MapH.made (w : World) : MapH (w.alloc (.map #[] 0)) w.heap.size 0 (fun _ => none) :=
  ⟨.map [], World.ownsMap_made w _ _ _, tidy_empty, rfl, fun s => ⟨rfl, fun v h => by cases h⟩⟩
theorem MapH.kept {row : Option Nat} (h : MapH w b n f) (hg : w.grownBy w' row) (hne : some b ≠ row) : MapH w' b n f := by
  obtain ⟨D, h1, h2⟩ := h; exact ⟨D, h1.kept hg hne, h2⟩
theorem MapH.chgS {S : Nat → Prop} (h : MapH w b n f) (hc : ChgS S w w') (hs : ¬ S b) : MapH w' b n f := by
  have hlt := h.lt
  obtain ⟨D, ⟨es, clock, hb, h1⟩, h2⟩ := h
  exact ⟨D, ⟨es, clock, (hc.block b hlt hs).trans hb, h1⟩, h2⟩
theorem MapH.below (h : MapH w b n f) (hb : Below w.heap.size w w') : MapH w' b n f := h.chgS (ChgS.of_below (S := fun _ => False) hb) (fun h => h)
theorem MapH.drewN (h : MapH w b n f) (k : Nat) : MapH (w.drewN k) b n f := h
theorem MapH.congr {f' : ByteArray → Option Value} (h : MapH w b n f) (he : ∀ s, f s = f' s) : MapH w b n f' := by
  rw [show f' = f from funext fun s => (he s).symm]; exact h
theorem MapH.isMap (h : MapH w b n f) : ∃ es clock, w.heap[b]? = some (.map es clock) := by
  obtain ⟨D, ⟨es, clock, hb, _⟩, _⟩ := h; exact ⟨es, clock, hb⟩
theorem MapH.ne_blk {g : Nat} {t : TypeId} {cs : Array Value} (h : MapH w b n f) (hg : Blk w g t cs) : b ≠ g := fun e => by
  obtain ⟨es, clock, h⟩ := h.isMap
  subst e
  rw [show w.heap[b]? = _ from hg] at h
  cases h
theorem MapH.ne_own {base : Nat} {e : TypeId} {size m : Nat} {v : Value} {xs : List Value} (h : MapH w b n f) (ho : w.ownsRow base e size v m xs) : v.ownBlock ≠ some b := fun e1 => by
  obtain ⟨es, clock, h⟩ := h.isMap
  rcases ho.2 with ⟨rfl, _⟩ | ⟨g, cap, cur, rfl, _, hg, _⟩
  · cases e1
  · injection e1 with e1
    change g = b at e1
    subst e1
    rw [hg] at h
    cases h
theorem MapH.look {T E : TypeId} {z : Value} (h : MapH w b n f) (ht : Tryz.prog.underlying T = some (.map 9 E)) (hz : (zeroValue E).run Tryz.prog w = .ok z w) (s : ByteArray) (hs : s.size ≤ maxLen) :
    (Instr.lookup T (.map (some b)) (.string s) true).run Tryz.prog w = .ok (.tuple #[(f s).getD z, .bool (f s).isSome]) w := by
  obtain ⟨D, h1, _, _, h3⟩ := h
  obtain ⟨v, ps, hrun, hv⟩ := h1.look_ok keyS_ ht hz (show heldR z = _ from rfl) (key_string hs)
  rw [hrun, show has D (.string s.data.toList) = _ from (h3 s).1]
  have hv' : DataW.held v = D.atKey (klT s) (.held z) := congrArg Prod.fst (Option.some.inj hv)
  cases hf : f s with
  | none =>
    rw [atKey_of_not_has (by rw [(h3 s).1, hf]; rfl)] at hv'
    have hv2 := DataW.held.inj hv'
    subst hv2
    simp only [Option.getD_none, Option.isSome_none]
  | some x =>
    rw [(h3 s).2 x hf] at hv'
    have hv2 := DataW.held.inj hv'
    subst hv2
    simp only [Option.getD_some, Option.isSome_some]
theorem MapH.look1 {T E : TypeId} {z : Value} (h : MapH w b n f) (ht : Tryz.prog.underlying T = some (.map 9 E)) (hz : (zeroValue E).run Tryz.prog w = .ok z w) (s : ByteArray) (hs : s.size ≤ maxLen) :
    (Instr.lookup T (.map (some b)) (.string s) false).run Tryz.prog w = .ok ((f s).getD z) w := by
  obtain ⟨D, h1, _, _, h3⟩ := h
  obtain ⟨v, ps, hrun, hv⟩ := h1.lookup keyS_ ht hz (show heldR z = _ from rfl) (key_string hs)
  rw [hrun]
  have hv' : DataW.held v = D.atKey (klT s) (.held z) := congrArg Prod.fst (Option.some.inj hv)
  cases hf : f s with
  | none =>
    rw [atKey_of_not_has (by rw [(h3 s).1, hf]; rfl)] at hv'
    have hv2 := DataW.held.inj hv'
    subst hv2
    simp only [Option.getD_none]
  | some x =>
    rw [(h3 s).2 x hf] at hv'
    have hv2 := DataW.held.inj hv'
    subst hv2
    simp only [Option.getD_some]
theorem MapH.len {T E : TypeId} (h : MapH w b n f) (ht : Tryz.prog.underlying T = some (.map 9 E)) (ty : TypeId) : (Builtin.len_ #[T] ty #[.map (some b)]).run Tryz.prog w = .ok (.int .i64 n) w := by
  obtain ⟨D, h1, _, h2, _⟩ := h
  rw [h1.len ht ty, h2]
theorem exactMap {D : DataW Value} {m : Nat} (h : w.ownsMap Tryz.prog 9 heldR b m D) : w.ownsMap Tryz.prog 9 heldR b (Maps.size D) D := by
  obtain ⟨es, clock, hb, F, hs, rfl⟩ := h
  exact ⟨es, clock, hb, F, by rw [size_eq, length_read]; exact Nat.le_refl _, rfl⟩
theorem MapH.put_ {T E : TypeId} (h : MapH w b n f) (ht : Tryz.prog.underlying T = some (.map 9 E)) (hn : n < maxLen) (s : ByteArray) (hs : s.size ≤ maxLen) (v : Value) :
    ∃ w', (Instr.mapUpdate T (.map (some b)) (.string s) v).run Tryz.prog w = .ok () w' ∧ MapH w' b (if (f s).isSome then n else n + 1) (fun t => if t = s then some v else f t) ∧ w.grownBy w' (some b) := by
  obtain ⟨D, h1, h2, h3, h4⟩ := h
  obtain ⟨w', hrun, r1, r2⟩ := h1.update keyS_ ht hn (key_string hs) (show heldR v = _ from rfl)
  refine ⟨w', hrun, ⟨D.put (klT s) (.held v), ?_, h2.put (klT_lit s) _, ?_, fun t => ?_⟩, r2⟩
  · have hz : Maps.size (D.put (klT s) (.held v)) = if (f s).isSome then n else n + 1 := by rw [size_put h2, (h4 s).1, h3]
    rw [← hz]
    exact exactMap r1
  · rw [size_put h2, (h4 s).1, h3]
  · by_cases e : t = s
    · subst e
      simp only [↓reduceIte]
      exact ⟨has_put_same h2.isMap (klT_lit _) _, fun x hx z => by rw [← Option.some.inj hx]; exact atKey_put_same h2.isMap (klT_lit _) _ _⟩
    · have hne : klT t ≠ klT s := fun h => e (klT_inj h)
      simp only [if_neg e]
      rw [has_put_other hne]
      exact ⟨(h4 t).1, fun x hx z => by rw [atKey_put_other hne]; exact (h4 t).2 x hx z⟩
theorem MapH.del_ {T E : TypeId} (h : MapH w b n f) (ht : Tryz.prog.underlying T = some (.map 9 E)) (s : ByteArray) (hs : s.size ≤ maxLen) (ty : TypeId) :
    ∃ w', (Builtin.delete_ #[T, 9] ty #[.map (some b), .string s]).run Tryz.prog w = .ok (.tuple #[]) w' ∧ MapH w' b (n - if (f s).isSome then 1 else 0) (fun t => if t = s then none else f t) ∧ w.grownBy w' (some b) := by
  obtain ⟨D, h1, h2, h3, h4⟩ := h
  obtain ⟨w', hrun, r1, r2⟩ := h1.drop keyS_ ht (key_string hs) ty
  have hz : Maps.size (D.del (klT s)) = n - if (f s).isSome then 1 else 0 := by
    have := size_del (k := klT s) h2
    rw [(h4 s).1, h3] at this
    omega
  refine ⟨w', hrun, ⟨D.del (klT s), ?_, h2.del _, hz, fun t => ?_⟩, ?_⟩
  · rw [← hz]
    exact exactMap r1
  · by_cases e : t = s
    · subst e
      simp only [↓reduceIte]
      exact ⟨has_del_same, fun x hx z => by cases hx⟩
    · have hne : klT t ≠ klT s := fun h => e (klT_inj h)
      simp only [if_neg e]
      rw [has_del_other hne]
      exact ⟨(h4 t).1, fun x hx z => by rw [atKey_del_other hne]; exact (h4 t).2 x hx z⟩
  · obtain ⟨es, clock, es', clock', hb, rfl⟩ := r2
    exact ⟨rfl, rfl, rfl, by simp [Go.ChangeMaps.setBlock], fun i _ hi => Go.ChangeMaps.heap_setBlock_other hb _ (fun e => hi (by rw [e]))⟩
/-! At the operation. -/
theorem wpList_putH {ops : Array Oper} {rest : List Oper} {o : Oper} {a : Act} {Q : Exit → Act → World → Prop} (hg : o.guard = none) (T E : TypeId) (m x v : Operand) (hop : o.op = Op.mapUpdate T m x v)
    (ht : Tryz.prog.underlying T = some (.map 9 E)) (b n : Nat) (f : ByteArray → Option Value) (hm : a.eval m = .map (some b)) (h : MapH w b n f) (hn : n < maxLen) (s : ByteArray) (hs : s.size ≤ maxLen) (u : Value)
    (hx : a.eval x = .string s) (hv : a.eval v = u)
    (hK : ∀ w', MapH w' b (if (f s).isSome then n else n + 1) (fun t => if t = s then some u else f t) → w.grownBy w' (some b) → wpList Tryz.prog ops Q rest (a.put o.dst undef) w') :
    wpList Tryz.prog ops Q (o :: rest) a w := by
  refine wpList_plain hg fun K' hK' => ?_
  obtain ⟨w', hrun, r1, r2⟩ := h.put_ ht hn s hs u
  unfold Oper.wp
  simp [execOp, hop, hm, hx, hv, hrun, Result.andThen]
  exact hK' _ _ (hK w' r1 r2)
theorem step_putH {ops : Array Oper} {o : Oper} {a : Act} {K : Act → World → Prop} {Q : Exit → Act → World → Prop} {X : Prop} (hg : o.guard = none) (T E : TypeId) (m x v : Operand) (hop : o.op = Op.mapUpdate T m x v)
    (ht : Tryz.prog.underlying T = some (.map 9 E)) (b n : Nat) (f : ByteArray → Option Value) (hm : a.eval m = .map (some b)) (h : MapH w b n f) (hn : n < maxLen) (s : ByteArray) (hs : s.size ≤ maxLen) (u : Value)
    (hx : a.eval x = .string s) (hv : a.eval v = u)
    (hK : ∀ w', MapH w' b (if (f s).isSome then n else n + 1) (fun t => if t = s then some u else f t) → w.grownBy w' (some b) → K (a.put o.dst undef) w') :
    if Region.wanted o (yielded ops a.tmps) = true then Oper.wp Tryz.prog o a w K Q else X := by
  rw [if_pos (by simp [Region.wanted, hg])]
  obtain ⟨w', hrun, r1, r2⟩ := h.put_ ht hn s hs u
  unfold Oper.wp
  simp [execOp, hop, hm, hx, hv, hrun, Result.andThen]
  exact hK w' r1 r2
theorem wpList_delH {ops : Array Oper} {rest : List Oper} {o : Oper} {a : Act} {Q : Exit → Act → World → Prop} (hg : o.guard = none) (T E : TypeId) (m x : Operand)
    (hop : o.op = Op.call { callee := Callee.builtin Builtin.delete, args := #[m, x], argTypes := #[T, 9] })
    (ht : Tryz.prog.underlying T = some (.map 9 E)) (b n : Nat) (f : ByteArray → Option Value) (hm : a.eval m = .map (some b)) (h : MapH w b n f) (s : ByteArray) (hs : s.size ≤ maxLen) (hx : a.eval x = .string s)
    (hK : ∀ w', MapH w' b (n - if (f s).isSome then 1 else 0) (fun t => if t = s then none else f t) → w.grownBy w' (some b) → wpList Tryz.prog ops Q rest (a.put o.dst (.tuple #[])) w') :
    wpList Tryz.prog ops Q (o :: rest) a w := by
  refine wpList_plain hg fun K' hK' => ?_
  obtain ⟨w', hrun, r1, r2⟩ := h.del_ ht s hs o.type
  unfold Oper.wp
  simp [execOp, hop, resolve, invoke, builtin, hm, hx, hrun, Result.andThen]
  exact hK' _ _ (hK w' r1 r2)
/-! 'for s, x := range m': what is still to come. -/
def RangeH (w : World) (b r n : Nat) (f : ByteArray → Option Value) (left : ByteArray → Bool) (cnt : Nat) : Prop :=
  ∃ (D : DataW Value) (lf : Lit → Bool), w.ranges Tryz.prog 9 heldR b r n D lf cnt ∧ Tidy D ∧ Maps.size D = n ∧ (∀ s : ByteArray, has D (klT s) = (f s).isSome ∧ ∀ v, f s = some v → ∀ z, D.atKey (klT s) z = .held v) ∧ (∀ s, lf (klT s) = left s) ∧ ∀ s, left s = true → (f s).isSome = true
theorem RangeH.map {left : ByteArray → Bool} {cnt : Nat} (h : RangeH w b r n f left cnt) : MapH w b n f := by
  obtain ⟨D, lf, h1, h2, h3, h4, _⟩ := h
  exact ⟨D, h1.owns, h2, h3, h4⟩
theorem RangeH.lt {left : ByteArray → Bool} {cnt : Nat} (h : RangeH w b r n f left cnt) : r < w.heap.size := by
  obtain ⟨D, lf, h1, _⟩ := h; exact h1.lt
theorem RangeH.kept {left : ByteArray → Bool} {cnt : Nat} {row : Option Nat} (h : RangeH w b r n f left cnt) (hg : w.grownBy w' row) (hb : some b ≠ row) (hr : some r ≠ row) : RangeH w' b r n f left cnt := by
  obtain ⟨D, lf, h1, h2⟩ := h
  exact ⟨D, lf, h1.kept hg hb hr, h2⟩
theorem RangeH.below {left : ByteArray → Bool} {cnt : Nat} (h : RangeH w b r n f left cnt) (hb : Below w.heap.size w w') : RangeH w' b r n f left cnt :=
  h.kept (row := none) ⟨hb.os, hb.tape, hb.output, hb.size, fun i hi _ => hb.block i hi⟩ (by simp) (by simp)
theorem RangeH.left_eq {left : ByteArray → Bool} {cnt : Nat} (h : RangeH w b r n f left cnt) : w.rangeLeft b r = cnt := by
  obtain ⟨D, lf, h1, _⟩ := h; exact h1.left_eq
theorem wpList_rangeH {ops : Array Oper} {rest : List Oper} {o : Oper} {a : Act} {Q : Exit → Act → World → Prop} (hg : o.guard = none) (T E : TypeId) (m : Operand) (hop : o.op = Op.range T m)
    (ht : Tryz.prog.underlying T = some (.map 9 E)) (b n : Nat) (f : ByteArray → Option Value) (hm : a.eval m = .map (some b)) (h : MapH w b n f)
    (hK : ∀ w', RangeH w' b w.heap.size n f (fun s => (f s).isSome) n → w.grownBy w' none → w'.heap.size = w.heap.size + 1 → wpList Tryz.prog ops Q rest (a.put o.dst (.pointer (some ⟨w.heap.size, 0, none⟩))) w') :
    wpList Tryz.prog ops Q (o :: rest) a w := by
  obtain ⟨D, h1, h2, h3, h4⟩ := h
  refine wpList_range_own w hg m T hop 9 E keyS_ ht heldR b n D hm h1 fun w' r1 r2 r3 => hK w' ⟨D, _, by rw [h3] at r1; exact r1, h2, h3, h4, fun s => (h4 s).1, fun s hs => hs⟩ r2 r3
theorem keyOf_string_inv {key : Value} {kl : Lit} (h : keyOf Tryz.prog 9 key = some kl) : ∃ s : ByteArray, key = .string s ∧ kl = klT s ∧ s.size ≤ maxLen := by
  rw [keyOf_string Tryz.underlying9] at h
  unfold mapKey at h
  rw [Tryz.underlying9] at h
  cases key with
  | string s =>
    simp only at h
    split at h
    · rename_i hs
      injection h with h
      exact ⟨s, rfl, h.symm, hs⟩
    · cases h
  | _ => simp at h
theorem wpList_nextH {ops : Array Oper} {rest : List Oper} {o : Oper} {a : Act} {Q : Exit → Act → World → Prop} (hg : o.guard = none) (it : Operand) (hop : o.op = Op.next it false) (b r n : Nat) (f : ByteArray → Option Value) (left : ByteArray → Bool) (cnt : Nat)
    (hit : a.eval it = .pointer (some ⟨r, 0, none⟩)) (h : RangeH w b r n f left cnt)
    (hDone : (∀ s, left s = false) → wpList Tryz.prog ops Q rest (a.put o.dst (.tuple #[.bool false])) w)
    (hMore : ∀ (s : ByteArray) (v : Value) (w' : World) (cnt' : Nat), s.size ≤ maxLen → left s = true → f s = some v → RangeH w' b r n f (fun t => left t && !decide (t = s)) cnt' → cnt' < cnt →
      w.grownBy w' (some r) → w'.heap.size = w.heap.size → (Instr.entry (.pointer (some ⟨r, 0, none⟩))).run Tryz.prog w' = .ok (.tuple #[.string s, v]) w' → wpList Tryz.prog ops Q rest (a.put o.dst (.tuple #[.bool true, .string s, v])) w') :
    wpList Tryz.prog ops Q (o :: rest) a w := by
  obtain ⟨D, lf, h1, h2, h3, h4, h5, h6⟩ := h
  refine wpList_next_ranges w hg it hop 9 keyS_ heldR Value.string (fun v : Value => v) (fun key kl hk => by obtain ⟨s, rfl, _⟩ := keyOf_string_inv hk; exact ⟨s, rfl⟩) (fun v y _ => ⟨v, rfl⟩) b r n D lf cnt hit h1
    (fun _ hl => hDone fun s => by rw [← h5 s]; exact hl _) (fun s v kl y w' cnt' hk hl hv hat hr hlt hgr hsz hen => ?_)
  obtain ⟨s', e1, rfl, hs⟩ := keyOf_string_inv hk
  injection e1 with e1
  subst e1
  have hls : left s = true := by rw [← h5 s]; exact hl
  obtain ⟨x, hx⟩ := Option.isSome_iff_exists.1 (h6 s hls)
  have e2 : y.1 = .held x := by rw [← hat (.held x)]; exact (h4 s).2 x hx _
  have e3 : DataW.held v = y.1 := congrArg Prod.fst (Option.some.inj hv)
  rw [e2] at e3
  have e4 := DataW.held.inj e3
  subst e4
  refine hMore s v w' cnt' hs hls hx ⟨D, _, hr, h2, h3, h4, fun t => ?_, fun t ht => h6 t (by simp only [Bool.and_eq_true] at ht; exact ht.1)⟩ hlt hgr hsz hen
  rw [h5 t]
  by_cases e : t = s
  · subst e
    rw [WideAt.sameKey_self (klT_lit t)]
    simp only [decide_true]
  · rw [sameKey_ne (fun h => e (klT_inj h))]
    show (left t && !false) = (left t && !decide (t = s))
    rw [decide_eq_false e]
end
end Go.Proofs.YtgkpoopiamicnaaGreatDoor
