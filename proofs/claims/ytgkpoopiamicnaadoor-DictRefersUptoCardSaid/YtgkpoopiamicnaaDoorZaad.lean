/-
  Layer 40: articles, plainly and in memory that lies in some blocks. Conditions: none.
-/
import Derived.Test.YtgkpoopiamicnaaDoorZaac
import Derived.Test.YtgkpoopiamicnaaDoorZaab
import Derived.Test.YtgkpoopiamicnaaDoorZaaa
import Derived.Test.YtgkpoopiamicnaaDoorRows
import Derived.Deep.Slices
import Derived.Deep.Fields
import Derived.Lib.SmallJoins
namespace Go.Proofs.YtgkpoopiamicnaaDoor
open Go.RowKit Go.Lib

/-- A row that lies in a block of S. -/
def RowF (w : World) (S : Nat → Prop) (k : Nat) (A : Option Addr) (n : Nat) (xs : List Value) : Prop := xs.length = n * k ∧ (0 < n → ∃ a, A = some a ∧ S a.block ∧ ∀ j u, xs[j]? = some u → w.cell? (a.add j) = some u)
section
variable {w w' : World} {S S' : Nat → Prop} {k n B : Nat} {A : Option Addr} {xs : List Value}
theorem RowF.keep (h : RowF w S k A n xs) (hs : ∀ b, S b → S' b) (hk : ∀ q : Addr, S q.block → w'.cell? q = w.cell? q) : RowF w' S' k A n xs :=
  ⟨h.1, fun hn => by
    obtain ⟨a, e, h1, h2⟩ := h.2 hn
    exact ⟨a, e, hs _ h1, fun j u hu => (hk _ (by rw [block_of_add]; exact h1)).trans (h2 j u hu)⟩⟩
theorem RowF.reads (h : RowF w S k A n xs) (hs : ∀ b, S b → b < B) : Reads w B k A n xs :=
  ⟨h.1, fun hn => by
    obtain ⟨a, e, h1, h2⟩ := h.2 hn
    exact ⟨a, e, hs _ h1, h2⟩⟩
theorem rowF_of_reads (h : Reads w B k A n xs) : RowF w (fun b => b < B) k A n xs := h
theorem own_rowF {base : Nat} {e : TypeId} {size : Nat} {v : Value} (h : w.ownsRow base e size v n xs) : ∃ A c, v = .slice A n c ∧ n ≤ c ∧ c ≤ maxLen ∧ RowF w (fun b => v.ownBlock = some b) size A n xs := by
  obtain ⟨A, c, rfl, h1, h2⟩ := ownsRow_form h
  have hr := Reads.of_own h
  refine ⟨A, c, rfl, h1, h2, hr.1, fun hn => ?_⟩
  obtain ⟨a, rfl, _, h3⟩ := hr.2 hn
  refine ⟨a, rfl, ?_, h3⟩
  rcases h.2 with ⟨h4, h5⟩ | ⟨g, cap, cur, h4, _⟩
  · cases h4
  · injection h4 with h4 _ _
    injection h4 with h4
    subst h4; rfl
end
/-- Nothing in the blocks of S turns. -/
def KeepS (S : Nat → Prop) (w w' : World) : Prop := ∀ q : Addr, S q.block → w'.cell? q = w.cell? q
theorem keepS_chg {S T : Nat → Prop} {w w' : World} (hc : ChgS T w w') (hl : ∀ b, S b → b < w.heap.size) (hd : ∀ b, S b → ¬ T b) : KeepS S w w' := fun _ hq =>
  World.cell?_of_block (hc.block _ (hl _ hq) (hd _ hq))
theorem keepS_below {S : Nat → Prop} {w w' : World} {B : Nat} (hb : Below B w w') (hl : ∀ b, S b → b < B) : KeepS S w w' := fun _ hq => hb.cell (hl _ hq)
/-! Slices of texts, of sounds. -/
def TxF (w : World) (S : Nat → Prop) (l : List ByteArray) (v : Value) : Prop := ∃ A c, v = .slice A l.length c ∧ (l.length ≤ c ∧ c ≤ maxLen) ∧ RowF w S 1 A l.length (l.map Value.string)
def WdF (w : World) (S : Nat → Prop) (l : List Snd) (v : Value) : Prop := ∃ A c, v = .slice A l.length c ∧ (l.length ≤ c ∧ c ≤ maxLen) ∧ RowF w S 2 A l.length (l.flatMap sndC)
section
variable {w w' : World} {S S' : Nat → Prop}
theorem TxF.keep {l : List ByteArray} {v : Value} (h : TxF w S l v) (hs : ∀ b, S b → S' b) (hk : KeepS S w w') : TxF w' S' l v := by
  obtain ⟨A, c, e, h1, h2⟩ := h
  exact ⟨A, c, e, h1, h2.keep hs hk⟩
theorem WdF.keep {l : List Snd} {v : Value} (h : WdF w S l v) (hs : ∀ b, S b → S' b) (hk : KeepS S w w') : WdF w' S' l v := by
  obtain ⟨A, c, e, h1, h2⟩ := h
  exact ⟨A, c, e, h1, h2.keep hs hk⟩
theorem txF_nil (w : World) (S : Nat → Prop) : TxF w S [] (.slice none 0 0) := ⟨none, 0, rfl, ⟨Nat.le_refl _, by unfold maxLen; omega⟩, rfl, fun h => absurd h (Nat.lt_irrefl _)⟩
theorem wdF_nil (w : World) (S : Nat → Prop) : WdF w S [] (.slice none 0 0) := ⟨none, 0, rfl, ⟨Nat.le_refl _, by unfold maxLen; omega⟩, rfl, fun h => absurd h (Nat.lt_irrefl _)⟩
theorem txF_own {base : Nat} {t : TypeId} {l : List ByteArray} {v : Value} (ho : w.ownsRow base t 1 v l.length (l.map Value.string)) (hv : ∀ b, v.ownBlock = some b → S b) : TxF w S l v := by
  obtain ⟨A, c, rfl, h1, h2, h3⟩ := own_rowF ho
  exact ⟨A, c, rfl, ⟨h1, h2⟩, h3.keep hv (fun _ _ => rfl)⟩
theorem wdF_own {base : Nat} {t : TypeId} {l : List Snd} {v : Value} (ho : w.ownsRow base t 2 v l.length (l.flatMap sndC)) (hv : ∀ b, v.ownBlock = some b → S b) : WdF w S l v := by
  obtain ⟨A, c, rfl, h1, h2, h3⟩ := own_rowF ho
  exact ⟨A, c, rfl, ⟨h1, h2⟩, h3.keep hv (fun _ _ => rfl)⟩
end
/-! Articles. -/
structure Art where
  head : ByteArray
  word : List Snd
  texts : List ByteArray
  see : List ByteArray
def art0 : Art := ⟨⟨#[]⟩, [], [], []⟩
/-- Strings of the reach, numbers of 32 bits. -/
structure ArtOk (x : Art) : Prop where
  head : x.head.size ≤ 140737488351232
  word : ∀ s ∈ x.word, ok32 s
  texts : ∀ s ∈ x.texts, s.size ≤ 140737488351232
  see : ∀ s ∈ x.see, s.size ≤ 140737488351232
theorem artOk0 : ArtOk art0 := ⟨by decide, by simp [art0], by simp [art0], by simp [art0]⟩
def ArtF (w : World) (S : Nat → Prop) (x : Art) (cs : List Value) : Prop := ∃ v1 v2 v3, cs = [.string x.head, v1, v2, v3] ∧ WdF w S x.word v1 ∧ TxF w S x.texts v2 ∧ TxF w S x.see v3
theorem ArtF.keep {w w' : World} {S S' : Nat → Prop} {x : Art} {cs : List Value} (h : ArtF w S x cs) (hs : ∀ b, S b → S' b) (hk : KeepS S w w') : ArtF w' S' x cs := by
  obtain ⟨v1, v2, v3, e, h1, h2, h3⟩ := h
  exact ⟨v1, v2, v3, e, h1.keep hs hk, h2.keep hs hk, h3.keep hs hk⟩
theorem artF0 (w : World) (S : Nat → Prop) : ArtF w S art0 [.string ⟨#[]⟩, .slice none 0 0, .slice none 0 0, .slice none 0 0] := ⟨_, _, _, rfl, wdF_nil w S, txF_nil w S, txF_nil w S⟩
theorem ArtF.len {w : World} {S : Nat → Prop} {x : Art} {cs : List Value} (h : ArtF w S x cs) : cs.length = 4 := by
  obtain ⟨v1, v2, v3, rfl, _⟩ := h; rfl
/-- The cells, each slice written out. -/
theorem ArtF.form {w : World} {S : Nat → Prop} {x : Art} {cs : List Value} (h : ArtF w S x cs) : ∃ A1 c1 A2 c2 A3 c3, cs = [.string x.head, .slice A1 x.word.length c1, .slice A2 x.texts.length c2, .slice A3 x.see.length c3] := by
  obtain ⟨v1, v2, v3, rfl, ⟨A1, c1, rfl, _⟩, ⟨A2, c2, rfl, _⟩, ⟨A3, c3, rfl, _⟩⟩ := h
  exact ⟨A1, c1, A2, c2, A3, c3, rfl⟩
/-! Rows of things whose parts lie in blocks of S. -/
section
variable {α : Type} {F F' : World → (Nat → Prop) → α → List Value → Prop} {w w' : World} {S S' : Nat → Prop}
def RowsF (F : World → (Nat → Prop) → α → List Value → Prop) (w : World) (S : Nat → Prop) : List α → List Value → Prop
  | [], xs => xs = []
  | x :: l, xs => ∃ c1 c2, xs = c1 ++ c2 ∧ F w S x c1 ∧ RowsF F w S l c2
theorem RowsF.imp : ∀ {l : List α} {xs : List Value}, RowsF F w S l xs → (∀ x cs, F w S x cs → F' w' S' x cs) → RowsF F' w' S' l xs
  | [], _, h, _ => h
  | x :: _, _, ⟨c1, c2, e, h1, h2⟩, hi => ⟨c1, c2, e, hi x c1 h1, RowsF.imp h2 hi⟩
theorem RowsF.append {x : α} {c2 : List Value} (h2 : F w S x c2) : ∀ {l : List α} {c1 : List Value}, RowsF F w S l c1 → RowsF F w S (l ++ [x]) (c1 ++ c2)
  | [], c1, h => by
    subst h
    exact ⟨c2, [], by simp, h2, rfl⟩
  | y :: l, c1, ⟨d1, d2, e, k1, k2⟩ => ⟨d1, d2 ++ c2, by rw [e, List.append_assoc], k1, RowsF.append h2 k2⟩
theorem RowsF.app {m : List α} {c2 : List Value} (h2 : RowsF F w S m c2) : ∀ {l : List α} {c1 : List Value}, RowsF F w S l c1 → RowsF F w S (l ++ m) (c1 ++ c2)
  | [], c1, h => by subst h; exact h2
  | y :: l, c1, ⟨d1, d2, e, k1, k2⟩ => ⟨d1, d2 ++ c2, by rw [e, List.append_assoc], k1, RowsF.app h2 k2⟩
theorem RowsF.len {k : Nat} (hk : ∀ x cs, F w S x cs → cs.length = k) : ∀ {l : List α} {xs : List Value}, RowsF F w S l xs → xs.length = l.length * k
  | [], _, h => by subst h; simp
  | x :: l, _, ⟨c1, c2, e, h1, h2⟩ => by
    rw [e, List.length_append, hk x c1 h1, RowsF.len hk h2, List.length_cons, Nat.succ_mul, Nat.add_comm]
theorem RowsF.at_ {k : Nat} (hk : ∀ x cs, F w S x cs → cs.length = k) : ∀ {l : List α} {xs : List Value}, RowsF F w S l xs → ∀ (i : Nat) (hi : i < l.length), ∃ cs, F w S l[i] cs ∧ (xs.drop (i * k)).take k = cs ∧ ∀ j u, cs[j]? = some u → xs[i * k + j]? = some u
  | [], _, _, i, hi => absurd hi (Nat.not_lt_zero _)
  | x :: l, _, ⟨c1, c2, e, h1, h2⟩, 0, _ => by
    have hl := hk x c1 h1
    refine ⟨c1, h1, ?_, fun j u hu => ?_⟩
    · rw [e, Nat.zero_mul, List.drop_zero, List.take_append_of_le_length (by omega), List.take_of_length_le (by omega)]
    · rw [e, Nat.zero_mul, Nat.zero_add, List.getElem?_append_left (List.getElem?_eq_some_iff.1 hu).1]
      exact hu
  | x :: l, _, ⟨c1, c2, e, h1, h2⟩, i + 1, hi => by
    obtain ⟨cs, h3, h5, h4⟩ := RowsF.at_ hk h2 i (Nat.lt_of_succ_lt_succ hi)
    have hl := hk x c1 h1
    refine ⟨cs, h3, ?_, fun j u hu => ?_⟩
    · have e2 : (i + 1) * k = c1.length + i * k := by rw [hl, Nat.succ_mul, Nat.add_comm]
      rw [← h5, e, e2, List.drop_length_add_append]
    · rw [e, List.getElem?_append_right (by rw [hl, Nat.succ_mul]; omega), hl, show (i + 1) * k + j - k = i * k + j by rw [Nat.succ_mul]; omega]
      exact h4 j u hu
theorem RowsF.take_ {k : Nat} (hk : ∀ x cs, F w S x cs → cs.length = k) : ∀ {l : List α} {xs : List Value} (i : Nat), RowsF F w S l xs → RowsF F w S (l.take i) (xs.take (i * k))
  | [], _, i, h => by subst h; simp [RowsF]
  | x :: l, _, 0, _ => by simp [RowsF]
  | x :: l, _, i + 1, ⟨c1, c2, e, h1, h2⟩ => by
    have hl := hk x c1 h1
    refine ⟨c1, c2.take (i * k), ?_, h1, RowsF.take_ hk i h2⟩
    have e2 : (i + 1) * k = c1.length + i * k := by rw [hl, Nat.succ_mul, Nat.add_comm]
    rw [e, e2, List.take_length_add_append]
theorem RowsF.drop_ {k : Nat} (hk : ∀ x cs, F w S x cs → cs.length = k) : ∀ {l : List α} {xs : List Value} (i : Nat), RowsF F w S l xs → RowsF F w S (l.drop i) (xs.drop (i * k))
  | [], _, i, h => by subst h; simp [RowsF]
  | x :: l, _, 0, h => by simpa using h
  | x :: l, _, i + 1, ⟨c1, c2, e, h1, h2⟩ => by
    have hl := hk x c1 h1
    have e2 : (i + 1) * k = c1.length + i * k := by rw [hl, Nat.succ_mul, Nat.add_comm]
    rw [List.drop_succ_cons, e, e2, List.drop_length_add_append]
    exact RowsF.drop_ hk i h2
/-- A slice of such things. -/
def SlF (F : World → (Nat → Prop) → α → List Value → Prop) (k : Nat) (w : World) (S : Nat → Prop) (l : List α) (v : Value) : Prop :=
  ∃ A c xs, v = .slice A l.length c ∧ (l.length ≤ c ∧ c ≤ maxLen) ∧ RowF w S k A l.length xs ∧ RowsF F w S l xs
theorem SlF.imp {k : Nat} {l : List α} {v : Value} (h : SlF F k w S l v) (hs : ∀ b, S b → S' b) (hk : KeepS S w w') (hi : ∀ x cs, F w S x cs → F' w' S' x cs) : SlF F' k w' S' l v := by
  obtain ⟨A, c, xs, e, h1, h2, h3⟩ := h
  exact ⟨A, c, xs, e, h1, h2.keep hs hk, h3.imp hi⟩
theorem SlF.form {k : Nat} {l : List α} {v : Value} (h : SlF F k w S l v) : ∃ A c, v = .slice A l.length c ∧ l.length ≤ c ∧ c ≤ maxLen := by
  obtain ⟨A, c, xs, e, h1, _⟩ := h
  exact ⟨A, c, e, h1⟩
theorem slF_nil (F : World → (Nat → Prop) → α → List Value → Prop) (k : Nat) (w : World) (S : Nat → Prop) : SlF F k w S [] (.slice none 0 0) :=
  ⟨none, 0, [], rfl, ⟨Nat.le_refl _, by unfold maxLen; omega⟩, ⟨by simp, fun h => absurd h (Nat.lt_irrefl _)⟩, rfl⟩
/-- What one has made of one's own. -/
theorem slF_own {k base : Nat} {t : TypeId} {l : List α} {v : Value} {xs : List Value} (ho : w.ownsRow base t k v l.length xs) (hv : ∀ b, v.ownBlock = some b → S b) (hp : RowsF F w S l xs) : SlF F k w S l v := by
  obtain ⟨A, c, rfl, h1, h2, h3⟩ := own_rowF ho
  exact ⟨A, c, xs, rfl, ⟨h1, h2⟩, h3.keep hv (fun _ _ => rfl), hp⟩
theorem SlF.at_ {k : Nat} {l : List α} {A : Option Addr} {n c : Nat} (h : SlF F k w S l (.slice A n c)) (hk : ∀ x cs, F w S x cs → cs.length = k) {i : Nat} (hi : i < l.length) :
    ∃ ad cs, A = some ad ∧ S ad.block ∧ F w S l[i] cs ∧ ∀ j u, cs[j]? = some u → w.cell? (ad.add (i * k + j)) = some u := by
  obtain ⟨A', c', xs, e, h1, h2, h3⟩ := h
  injection e with e1 e2 e3
  subst e1
  obtain ⟨ad, e, hb, hc⟩ := h2.2 (by omega)
  obtain ⟨cs, h4, _, h5⟩ := h3.at_ hk i hi
  exact ⟨ad, cs, e, hb, h4, fun j u hu => hc _ _ (h5 j u hu)⟩
end
abbrev ArtsF := SlF ArtF 4
theorem ArtsF.keep {w w' : World} {S S' : Nat → Prop} {l : List Art} {v : Value} (h : ArtsF w S l v) (hs : ∀ b, S b → S' b) (hk : KeepS S w w') : ArtsF w' S' l v := h.imp hs hk fun _ _ h => h.keep hs hk
/-- Lists of texts. -/
def LxF (w : World) (S : Nat → Prop) (l : List ByteArray) (cs : List Value) : Prop := ∃ v, cs = [v] ∧ TxF w S l v
abbrev LlF := SlF LxF 1
theorem LlF.keep {w w' : World} {S S' : Nat → Prop} {l : List (List ByteArray)} {v : Value} (h : LlF w S l v) (hs : ∀ b, S b → S' b) (hk : KeepS S w w') : LlF w' S' l v := h.imp hs hk fun _ _ ⟨v, e, h⟩ => ⟨v, e, h.keep hs hk⟩
/-- What is new since. -/
abbrev NewS (w W : World) : Nat → Prop := fun b => w.heap.size ≤ b ∧ b < W.heap.size
abbrev aggM (cs : List Value) : Value := .agg cs.toArray
end Go.Proofs.YtgkpoopiamicnaaDoor
namespace Go.Proofs.YtgkpoopiamicnaaDoor
open Go.ChangeShapes Go.WideShapes Go.ChangeAt Go.RowKit

/-- A slice of bytes, read. -/
def ReadB (w : World) (B : Nat) (A : Option Addr) (n : Nat) (xs : List UInt8) : Prop := Reads w B 1 A n (xs.map fun b => Value.int .u8 b.toNat)
theorem ReadB.len {w : World} {B n : Nat} {A : Option Addr} {xs : List UInt8} (h : ReadB w B A n xs) : xs.length = n := by
  have := h.1; simpa using this
theorem ReadB.at_ {w : World} {B n k : Nat} {A : Option Addr} {xs : List UInt8} (h : ReadB w B A n xs) (hk : k < xs.length) :
    ∃ ad, A = some ad ∧ ad.block < B ∧ w.cell? (ad.add k) = some (.int .u8 xs[k].toNat) := by
  obtain ⟨ad, u, h1, h2, h3, h4⟩ := Reads.at_ (k := k) h (by have := h.len; omega)
  rw [List.getElem?_map, List.getElem?_eq_getElem hk] at h3
  simp only [Option.map_some, Option.some.injEq] at h3
  subst h3
  exact ⟨ad, h1, h2, h4⟩
section
variable {H : Type} {enc : TypeId × Value → H} {P : Program}
theorem of_wf_u8 {z : Int} (h : (Lit.int .u8 z).wf = true) : 0 ≤ z ∧ z < 256 := by
  simp only [Lit.wf, Bool.and_eq_true, decide_eq_true_eq] at h
  have h1 : IntKind.u8.min = 0 := rfl
  have h2 : IntKind.u8.max = 255 := rfl
  rw [h1, h2] at h; omega
theorem open_u8 {t : TypeId} {W : World} {base b0 : Nat} {v : Value} {d : DataW H} {ps : List MemPlace} (ht : P.underlying t = some (.int .u8)) (hval : Value.okWide P W .any b0 t v) (h : DataW.Trod enc P W base (fun _ => true) true t v d ps) :
    ∃ x : UInt8, v = .int .u8 x.toNat := by
  obtain ⟨n, rfl, rfl, _, hw⟩ := open_int ht hval h
  have := of_wf_u8 hw
  refine ⟨UInt8.ofNat n.toNat, ?_⟩
  rw [UInt8.toNat_ofNat', Nat.mod_eq_of_lt (by omega)]
  congr 1; omega
theorem of_wf_u64 {z : Int} (h : (Lit.int .u64 z).wf = true) : 0 ≤ z ∧ z < 18446744073709551616 := by
  simp only [Lit.wf, Bool.and_eq_true, decide_eq_true_eq] at h
  have h1 : IntKind.u64.min = 0 := rfl
  have h2 : IntKind.u64.max = 18446744073709551615 := rfl
  rw [h1, h2] at h; omega
theorem open_u64 {t : TypeId} {W : World} {base b0 : Nat} {v : Value} {d : DataW H} {ps : List MemPlace} (ht : P.underlying t = some (.int .u64)) (hval : Value.okWide P W .any b0 t v) (h : DataW.Trod enc P W base (fun _ => true) true t v d ps) :
    ∃ x : UInt64, v = .int .u64 x.toNat := by
  obtain ⟨n, rfl, rfl, _, hw⟩ := open_int ht hval h
  have := of_wf_u64 hw
  refine ⟨UInt64.ofNat n.toNat, ?_⟩
  rw [UInt64.toNat_ofNat', Nat.mod_eq_of_lt (by omega)]
  congr 1; omega
theorem open_bs {t e : TypeId} {W : World} {base : Nat} {v : Value} {d : DataW H} {ps : List MemPlace} (ht : P.underlying t = some (.slice e)) (he : P.underlying e = some (.int .u8)) (hc : P.cellsOf e = 1) (hval : Value.okWide P W .any base t v)
    (h : DataW.Trod enc P W 0 (fun _ => true) true t v d ps) :
    ∃ A n c xs, v = .slice A n c ∧ ReadB W W.heap.size A n xs ∧ n ≤ c ∧ c ≤ maxLen := by
  obtain ⟨A, n, c, rfl⟩ := okWide_slice ht hval
  obtain ⟨fuel, hf⟩ := h
  rcases open_ints ht he hc hf with ⟨hcs, hx⟩ | ⟨a, len, cap, zs, hcs, _, hl, hm, hlen, hx, hcell, hsz⟩
  · simp [Value.cells] at hcs
    obtain ⟨rfl, rfl, rfl⟩ := hcs
    exact ⟨none, 0, 0, [], rfl, Reads.none_, by omega, by unfold maxLen; omega⟩
  · simp [Value.cells] at hcs
    obtain ⟨rfl, rfl, rfl⟩ := hcs
    simp only [if_true] at hlen
    have hval2 : ∀ j (hj : j < n), W.cell? (a.add j) = some (.int .u8 ((UInt8.ofNat (zs.getD j 0).toNat).toNat : Nat)) := by
      intro j hj
      rw [hcell j (by omega)]
      have hmem : zs.getD j 0 ∈ zs := by
        rw [List.getD, List.getElem?_eq_getElem (show j < zs.length by omega)]; exact List.getElem_mem _
      have := of_wf_u8 (hsz _ hmem)
      rw [UInt8.toNat_ofNat', Nat.mod_eq_of_lt (by omega)]
      congr 2; omega
    refine ⟨some a, n, c, (zs.take n).map (fun z => UInt8.ofNat z.toNat), rfl, ⟨by simp; omega, fun hn => ⟨a, rfl, ?_, fun j u hu => ?_⟩⟩, hl, hm⟩
    · have := lt_cell (hval2 0 hn)
      rwa [block_of_add] at this
    · rw [List.map_map, List.getElem?_map] at hu
      obtain ⟨z, hz, rfl⟩ := Option.map_eq_some_iff.1 hu
      have hj : j < n := by have := (List.getElem?_eq_some_iff.1 hz).1; simp at this; omega
      rw [hval2 j hj]
      rw [List.getElem?_take, if_pos hj] at hz
      rw [List.getD, hz]; rfl
end
end Go.Proofs.YtgkpoopiamicnaaDoor
namespace Go.Proofs.YtgkpoopiamicnaaDoor
open Go.ChangeShapes Go.WideShapes Go.ChangeAt Go.RowKit

theorem u32_of_wf {x : Int} (h : (Lit.int .u32 x).wf = true) : ∃ n : Nat, x = n ∧ is32 n := by
  simp only [Lit.wf, Bool.and_eq_true, decide_eq_true_eq] at h
  have h1 : IntKind.u32.min = 0 := rfl
  have h2 : IntKind.u32.max = 4294967295 := rfl
  rw [h1, h2] at h
  exact ⟨x.toNat, by omega, by unfold is32; omega⟩
/-! The bulk. -/
theorem bulk_one {H : Type} (d : DataW H) : 1 ≤ Rows.uptoBulk d := by
  cases d with
  | lit l => cases l <;> simp [Rows.uptoBulk]
  | nil => simp [Rows.uptoBulk]
  | ptr d => simp [Rows.uptoBulk]
  | slice elems spare => simp [Rows.uptoBulk]
  | agg parts => simp [Rows.uptoBulk]
  | iface t d => simp [Rows.uptoBulk]
  | map entries => simp [Rows.uptoBulk]
  | held h => simp [Rows.uptoBulk]
theorem bulk_part {H : Type} {d : DataW H} : ∀ {l : List (DataW H)}, d ∈ l → Rows.uptoBulk d ≤ Rows.uptoBulkAll l
  | [], h => by cases h
  | x :: r, h => by
    simp only [Rows.uptoBulkAll]
    rcases List.mem_cons.1 h with rfl | h
    · omega
    · have := bulk_part h; omega
theorem bulk_len {H : Type} : ∀ l : List (DataW H), l.length ≤ Rows.uptoBulkAll l
  | [] => by simp [Rows.uptoBulkAll]
  | x :: r => by
    have := bulk_one x
    have := bulk_len r
    simp only [Rows.uptoBulkAll, List.length_cons]; omega
section
variable {H : Type} {enc : TypeId × Value → H} {P : Program} {W : World}
def SndTy (P : Program) (t : TypeId) : Prop := ∃ g0 g1 : Field, P.underlying t = some (.struct #[g0, g1]) ∧ (g0.offset = 0 ∧ g1.offset = 1) ∧ (P.cellsOf g0.type = 1 ∧ P.cellsOf g1.type = 1 ∧ P.cellsOf t = 2) ∧ P.underlying g0.type = some (.int .u32) ∧ P.underlying g1.type = some (.int .u32)
theorem open_snd_t {t : TypeId} (T : SndTy P t) {fuel : Nat} {cs : List Value} {y : DataW H × List MemPlace} (h : DataW.trod enc P W 0 (fun _ => true) true fuel t cs = some y) : ∃ s : Snd, cs = sndC s ∧ ok32 s := by
  obtain ⟨g0, g1, hu, ⟨o0, o1⟩, ⟨c0, c1, c2⟩, u0, u1⟩ := T
  obtain ⟨xs, n, _, _, hl, hlen, hf⟩ := DataW.trod_struct hu h
  rw [c2] at hl
  match xs, hlen, cs, hl with
  | [y0, y1], _, [v0, v1], _ =>
    have k0 := hf 0 g0 rfl
    have k1 := hf 1 g1 rfl
    simp [o0, o1, c0, c1] at k0 k1
    obtain ⟨z0, e0, _, w0⟩ := DataW.trod_int u0 k0
    obtain ⟨z1, e1, _, w1⟩ := DataW.trod_int u1 k1
    simp only [List.cons.injEq, and_true] at e0 e1
    subst e0 e1
    obtain ⟨m0, rfl, l0⟩ := u32_of_wf w0
    obtain ⟨m1, rfl, l1⟩ := u32_of_wf w1
    exact ⟨(m0, m1), rfl, l0, l1⟩
/-- The rows of a slice, read. -/
theorem reads_rows {w : World} {a : Addr} {k len : Nat} (hk : 0 < k) (z : Nat → List Value) (hz : ∀ i, (z i).length = k) (h : ∀ i, i < len → ∀ j u, (z i)[j]? = some u → w.cell? (a.add (i * k + j)) = some u) : Reads w w.heap.size k (some a) len ((List.range len).flatMap z) := by
  refine ⟨by rw [flatMap_len z k hz]; simp, fun hn => ⟨a, rfl, ?_, fun j u hu => ?_⟩⟩
  · have h0 : 0 < (z 0).length := by rw [hz]; exact hk
    have := lt_cell (h 0 hn 0 _ (List.getElem?_eq_getElem h0))
    rwa [block_of_add] at this
  · have hj : j < len * k := by
      have := (List.getElem?_eq_some_iff.1 hu).1
      rw [flatMap_len z k hz] at this; simpa using this
    rw [flatMap_get z k hz _ j (by simpa using hj)] at hu
    have hd : j / k < len := Nat.div_lt_of_lt_mul (by rw [Nat.mul_comm]; exact hj)
    have he : (List.range len)[j / k]! = j / k := by rw [getElem!_pos (List.range len) (j / k) (by simpa using hd)]; simp
    rw [he] at hu
    have hm : j % k < (z (j / k)).length := by rw [hz]; exact Nat.mod_lt _ hk
    rw [getElem!_pos (z (j / k)) (j % k) hm, ← List.getElem?_eq_getElem] at hu
    have := h (j / k) hd (j % k) u hu
    rwa [show j / k * k + j % k = j by rw [Nat.mul_comm]; exact Nat.div_add_mod j k] at this
theorem rowsF_of {α : Type} {Q : World → (Nat → Prop) → α → List Value → Prop} {w : World} {S : Nat → Prop} (q : Nat → α) (z : Nat → List Value) : ∀ L : List Nat, (∀ i ∈ L, Q w S (q i) (z i)) → RowsF Q w S (L.map q) (L.flatMap z)
  | [], _ => rfl
  | i :: L, h => ⟨z i, L.flatMap z, rfl, h i List.mem_cons_self, rowsF_of q z L fun j hj => h j (List.mem_cons_of_mem _ hj)⟩
/-- Below what is there. -/
abbrev Lows (W : World) : Nat → Prop := fun b => b < W.heap.size
/-- A slice of elements that can be opened. -/
theorem open_slF {α : Type} [Inhabited α] {t e : TypeId} {k N : Nat} (hk : 0 < k) (Q : World → (Nat → Prop) → α → List Value → Prop) (ok : α → Prop) (ht : P.underlying t = some (.slice e)) (ce : P.cellsOf e = k)
    (ho : ∀ (n : Nat) (cs : List Value) (y : DataW H × List MemPlace), Rows.uptoBulk y.1 ≤ N → DataW.trod enc P W 0 (fun _ => true) true n e cs = some y → ∃ x : α, Q W (Lows W) x cs ∧ ok x) {fuel : Nat} {cs : List Value} {x : DataW H × List MemPlace}
    (h : DataW.trod enc P W 0 (fun _ => true) true fuel t cs = some x) (hN : Rows.uptoBulk x.1 ≤ N) :
    ∃ (v : Value) (l : List α), cs = [v] ∧ SlF Q k W (Lows W) l v ∧ (∀ y ∈ l, ok y) ∧ l.length ≤ N := by
  rcases Go.Deep.open_slice ht h with ⟨rfl, _⟩ | ⟨a, len, cap, m, n, D, Pl, rfl, hb, hl, hm, hmm, rfl, hx⟩
  · exact ⟨_, [], rfl, slF_nil _ _ _ _, (fun s hs => by cases hs), by simp⟩
  · simp only [if_true] at hmm
    subst hmm
    simp only [Rows.uptoBulk] at hN
    have hlen := bulk_len ((List.range len).map D)
    rw [List.length_map, List.length_range] at hlen
    have each : ∀ i, i < len → ∃ q : α × List Value, Q W (Lows W) q.1 q.2 ∧ ok q.1 ∧ q.2.length = k ∧ ∀ j u, q.2[j]? = some u → W.cell? (a.add (i * k + j)) = some u := by
      intro i hi
      obtain ⟨cs', h1, h2⟩ := hx i (by omega)
      rw [ce] at h1
      obtain ⟨_, hlen, hcell⟩ := World.cells?_some h1
      have hbk : Rows.uptoBulk (D i) ≤ Rows.uptoBulkAll ((List.range len).map D) := bulk_part (List.mem_map.2 ⟨i, List.mem_range.2 hi, rfl⟩)
      obtain ⟨q, hq, hq2⟩ := ho _ _ _ (by show Rows.uptoBulk (D i) ≤ N; omega) h2
      refine ⟨(q, _), hq, hq2, by simpa using hlen, fun j u hu => ?_⟩
      have hj : j < k := by have := (List.getElem?_eq_some_iff.1 hu).1; simp at this; omega
      have := hcell j hj
      rw [Go.Deep.add_add] at this
      rw [this]; exact hu
    obtain ⟨q, hq⟩ := Go.Deep.choose_lt each
    have hz : ∀ i, ((fun i => if i < len then (q i).2 else List.replicate k (.bool false)) i).length = k := fun i => by
      by_cases h : i < len
      · simp only [if_pos h]; exact (hq i h).2.2.1
      · simp only [if_neg h]; simp
    refine ⟨_, (List.range len).map fun i => (q i).1, rfl, ⟨some a, m, (List.range len).flatMap fun i => if i < len then (q i).2 else List.replicate k (.bool false), by simp, ⟨by simpa using hl, hm⟩, ?_, ?_⟩, fun s hs => ?_, by simp; omega⟩
    · rw [List.length_map, List.length_range]
      exact rowF_of_reads (reads_rows hk _ hz fun i hi j u hu => by
        simp only [if_pos hi] at hu
        exact (hq i hi).2.2.2 j u hu)
    · exact rowsF_of (fun i => (q i).1) _ (List.range len) fun i hi => by
        have hi := List.mem_range.1 hi
        simp only [if_pos hi]
        exact (hq i hi).1
    · obtain ⟨i, hi, rfl⟩ := List.mem_map.1 hs
      exact (hq i (List.mem_range.1 hi)).2.1
/-- A text. -/
def StrF (_ : World) (_ : Nat → Prop) (s : ByteArray) (cs : List Value) : Prop := cs = [.string s]
def SndF (_ : World) (_ : Nat → Prop) (s : Snd) (cs : List Value) : Prop := cs = sndC s
theorem rowsF_str {w : World} {S : Nat → Prop} : ∀ {l : List ByteArray} {xs : List Value}, RowsF StrF w S l xs → xs = l.map Value.string
  | [], _, h => h
  | s :: l, _, ⟨c1, c2, e, h1, h2⟩ => by rw [e, show c1 = [.string s] from h1, rowsF_str h2]; rfl
theorem rowsF_snd {w : World} {S : Nat → Prop} : ∀ {l : List Snd} {xs : List Value}, RowsF SndF w S l xs → xs = l.flatMap sndC
  | [], _, h => h
  | s :: l, _, ⟨c1, c2, e, h1, h2⟩ => by rw [e, show c1 = sndC s from h1, rowsF_snd h2]; rfl
theorem slF_tx {w : World} {S : Nat → Prop} {l : List ByteArray} {v : Value} (h : SlF StrF 1 w S l v) : TxF w S l v := by
  obtain ⟨A, c, xs, e, h1, h2, h3⟩ := h
  rw [rowsF_str h3] at h2
  exact ⟨A, c, e, h1, h2⟩
theorem slF_wd {w : World} {S : Nat → Prop} {l : List Snd} {v : Value} (h : SlF SndF 2 w S l v) : WdF w S l v := by
  obtain ⟨A, c, xs, e, h1, h2, h3⟩ := h
  rw [rowsF_snd h3] at h2
  exact ⟨A, c, e, h1, h2⟩
instance : Inhabited ByteArray := ⟨⟨#[]⟩⟩
instance : Inhabited Art := ⟨art0⟩
theorem open_str {t : TypeId} {N : Nat} (ht : P.underlying t = some .string) (n : Nat) (cs : List Value) (y : DataW H × List MemPlace) (hN : Rows.uptoBulk y.1 ≤ N) (h : DataW.trod enc P W 0 (fun _ => true) true n t cs = some y) : ∃ s : ByteArray, StrF W (Lows W) s cs ∧ s.size ≤ N := by
  obtain ⟨s, e, rfl, _⟩ := DataW.trod_string ht h
  simp only [Rows.uptoBulk] at hN
  exact ⟨s, e, by have : s.data.toList.length = s.size := rfl; omega⟩
theorem open_txs {t e : TypeId} {N : Nat} (ht : P.underlying t = some (.slice e)) (he : P.underlying e = some .string) (ce : P.cellsOf e = 1) {fuel : Nat} {cs : List Value} {x : DataW H × List MemPlace} (h : DataW.trod enc P W 0 (fun _ => true) true fuel t cs = some x) (hN : Rows.uptoBulk x.1 ≤ N) :
    ∃ (v : Value) (l : List ByteArray), cs = [v] ∧ TxF W (Lows W) l v ∧ (∀ s ∈ l, s.size ≤ N) ∧ l.length ≤ N := by
  obtain ⟨v, l, e1, h1, h2, h3⟩ := open_slF (by decide) StrF (fun s => s.size ≤ N) ht ce (fun n cs y hn hh => open_str he n cs y hn hh) h hN
  exact ⟨v, l, e1, slF_tx h1, h2, h3⟩
/-- The type of articles. -/
def ArtTy (P : Program) (t : TypeId) : Prop := ∃ (g0 g1 g2 g3 : Field) (e1 e2 e3 : TypeId), P.underlying t = some (.struct #[g0, g1, g2, g3]) ∧ (g0.offset = 0 ∧ g1.offset = 1 ∧ g2.offset = 2 ∧ g3.offset = 3) ∧ (P.cellsOf g0.type = 1 ∧ P.cellsOf g1.type = 1 ∧ P.cellsOf g2.type = 1 ∧ P.cellsOf g3.type = 1 ∧ P.cellsOf t = 4) ∧ P.underlying g0.type = some .string ∧
  (P.underlying g1.type = some (.slice e1) ∧ P.cellsOf e1 = 2 ∧ SndTy P e1) ∧ (P.underlying g2.type = some (.slice e2) ∧ P.cellsOf e2 = 1 ∧ P.underlying e2 = some .string) ∧ (P.underlying g3.type = some (.slice e3) ∧ P.cellsOf e3 = 1 ∧ P.underlying e3 = some .string)
theorem open_art {t : TypeId} {N : Nat} (T : ArtTy P t) (hN2 : N ≤ 140737488351232) (n : Nat) (cs : List Value) (y : DataW H × List MemPlace) (hN : Rows.uptoBulk y.1 ≤ N) (h : DataW.trod enc P W 0 (fun _ => true) true n t cs = some y) : ∃ x : Art, ArtF W (Lows W) x cs ∧ ArtOk x := by
  obtain ⟨g0, g1, g2, g3, e1, e2, e3, hu, ⟨o0, o1, o2, o3⟩, ⟨c0, c1, c2, c3, c4⟩, u0, ⟨u1, k1, t1⟩, ⟨u2, k2, t2⟩, ⟨u3, k3, t3⟩⟩ := T
  obtain ⟨xs, n, _, rfl, hl, hlen, hf⟩ := DataW.trod_struct hu h
  rw [c4] at hl
  match xs, hlen, cs, hl with
  | [y0, y1, y2, y3], _, [v0, v1, v2, v3], _ =>
    have f0 := hf 0 g0 rfl
    have f1 := hf 1 g1 rfl
    have f2 := hf 2 g2 rfl
    have f3 := hf 3 g3 rfl
    simp [o0, o1, o2, o3, c0, c1, c2, c3] at f0 f1 f2 f3
    simp only [List.map_cons, List.map_nil, Rows.uptoBulk, Rows.uptoBulkAll] at hN
    obtain ⟨s, q0, hs⟩ := open_str (N := N) u0 _ _ _ (by omega) f0
    obtain ⟨w1, l1, q1, hw1, hok1, -⟩ := open_slF (N := N) (by decide) SndF ok32 u1 k1 (fun n cs y _ hh => open_snd_t t1 hh) f1 (by omega)
    obtain ⟨w2, l2, q2, hw2, hok2, -⟩ := open_txs (N := N) u2 t2 k2 f2 (by omega)
    obtain ⟨w3, l3, q3, hw3, hok3, -⟩ := open_txs (N := N) u3 t3 k3 f3 (by omega)
    simp only [StrF, List.cons.injEq, and_true] at q0 q1 q2 q3
    subst q0 q1 q2 q3
    exact ⟨⟨s, l1, l2, l3⟩, ⟨_, _, _, rfl, slF_wd hw1, hw2, hw3⟩, ⟨by show s.size ≤ _; omega, hok1, fun s hs => Nat.le_trans (hok2 s hs) hN2, fun s hs => Nat.le_trans (hok3 s hs) hN2⟩⟩
theorem open_arts {t e : TypeId} {N : Nat} (ht : P.underlying t = some (.slice e)) (he : ArtTy P e) (ce : P.cellsOf e = 4) (hN2 : N ≤ 140737488351232) {fuel : Nat} {cs : List Value} {x : DataW H × List MemPlace} (h : DataW.trod enc P W 0 (fun _ => true) true fuel t cs = some x) (hN : Rows.uptoBulk x.1 ≤ N) :
    ∃ (v : Value) (l : List Art), cs = [v] ∧ ArtsF W (Lows W) l v ∧ (∀ s ∈ l, ArtOk s) ∧ l.length ≤ N :=
  open_slF (by decide) ArtF ArtOk ht ce (fun n cs y hn hh => open_art he hN2 n cs y hn hh) h hN
end
end Go.Proofs.YtgkpoopiamicnaaDoor
