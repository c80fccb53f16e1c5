/-
  Layer 4, plainly: inventories, marks, how texts are read and words are written. Conditions: none.
-/
import Derived.Test.YtmepaeahchiglaaGreatDoorZbah
import Derived.Test.YtmepaeahchiglaaGreatDoorZbaa
import Derived.Test.YtmepaeahchiglaaGreatDoorZbaf
import Derived.Test.YtmepaeahchiglaaGreatDoorZbae
import Derived.Maps.StringElems
import Derived.DeepKeys4
import Derived.WideKeyPair
import Derived.Test.YtmepaeahchiglaaGreatDoorShelf
namespace Go.Proofs.YtmepaeahchiglaaGreatDoor

/-- A text's bytes. -/
def bs (s : ByteArray) : List UInt8 := s.data.toList
def smallC (c : UInt8) : Bool := (decide (97 ≤ c.toNat) && decide (c.toNat ≤ 122)) || (decide (48 ≤ c.toNat) && decide (c.toNat ≤ 57))
def otherC (c : UInt8) : Bool := [64, 63, 33, 38, 42, 36, 37].contains c
def symC (c : UInt8) : Bool := smallC c || (decide (65 ≤ c.toNat) && decide (c.toNat ≤ 90)) || otherC c
def signC (c : UInt8) : Bool := [58, 39, 34, 126, 94, 95, 61, 96].contains c
/-- A text of some bytes, at most so many, each of a kind. -/
def consC (p : UInt8 → Bool) (most : Nat) (s : ByteArray) : Bool := decide (1 ≤ s.size) && decide (s.size ≤ most) && (bs s).all p
def okFeat (s : ByteArray) : Bool := consC smallC 16 s && decide (57 < ((bs s).headD 0).toNat)
def okSym (s : ByteArray) : Bool := consC symC 4 s
/-- The error of New of an inventory. -/
def newE (fs : List ByteArray) : Int := if 24 < fs.length then 12 else if fs.all okFeat then (if (fs.map bs).Nodup then 0 else 6) else 15
abbrev Nam := ByteArray × Snd
def belongs (n : Nat) (s : Snd) : Bool := decide (s.1 &&& s.2 = 0 ∧ s.1 ||| s.2 < 2 ^ n)
def hasSym (L : List Nam) (t : List UInt8) : Bool := L.any fun x => decide (bs x.1 = t)
def hasVal (L : List Nam) (s : Snd) : Bool := L.any fun x => decide (x.2 = s)
/-- The error of Add. -/
def addE (n : Nat) (L : List Nam) (sym : ByteArray) (s : Snd) : Int :=
  if okSym sym then (if belongs n s then (if hasSym L (bs sym) || hasVal L s then 6 else if L.length = 256 then 4 else 0) else 14) else 15
def addL (n : Nat) (L : List Nam) (x : Nam) : List Nam := if addE n L x.1 x.2 = 0 then L ++ [x] else L
structure Mk where
  text : ByteArray
  clear : Nat
  set : Snd
instance : Inhabited Mk := ⟨⟨⟨#[]⟩, 0, (0, 0)⟩⟩
def hasB (s : Snd) : Nat := s.1 ||| s.2
def okMark (s : ByteArray) : Bool := consC signC 3 s
/-- The error of a mark behind others. -/
def markE (n : Nat) (pre : List Mk) (m : Mk) : Int :=
  if okMark m.text then (if m.clear ||| hasB m.set < 2 ^ n ∧ m.clear &&& hasB m.set = 0 ∧ validS m.set = true then (if pre.any (fun y => decide (bs y.text = bs m.text)) then 6 else 0) else 2) else 15
def notE (n : Nat) : List Mk → List Mk → Int
  | _, [] => 0
  | pre, m :: r => if markE n pre m = 0 then notE n (pre ++ [m]) r else markE n pre m
def notK (n : Nat) (ms : List Mk) : Int := if 32 < ms.length then 12 else notE n [] ms
/-! How a text is read. -/
def symAt (L : List Nam) (t : List UInt8) (n : Nat) : Bool := decide (n ≤ t.length) && hasSym L (t.take n)
def longN (L : List Nam) (t : List UInt8) : Nat := if symAt L t 4 then 4 else if symAt L t 3 then 3 else if symAt L t 2 then 2 else if symAt L t 1 then 1 else 0
def soundOf (L : List Nam) (t : List UInt8) : Snd := ((L.find? fun x => decide (bs x.1 = t)).map (·.2)).getD (0, 0)
def mkLen (b : Option Mk) : Nat := (b.map (·.text.size)).getD 0
def markS (t : List UInt8) (b : Option Mk) (x : Mk) : Option Mk := if (bs x.text).isPrefixOf t && decide (mkLen b < x.text.size) then some x else b
def markAt (ms : List Mk) (t : List UInt8) : Option Mk := ms.foldl (markS t) none
/-- The bits of the first that the second has not (32 bits). -/
def andn (a b : Nat) : Nat := a &&& (4294967295 - b)
def mixS (s t : Snd) (set : Nat) : Snd := (andn s.1 set ||| (t.1 &&& set), andn s.2 set ||| (t.2 &&& set))
def chgS (x : Snd) (clear : Nat) (set : Snd) : Snd := if validS x = true ∧ validS set = true ∧ clear ≤ 16777215 ∧ clear &&& hasB set = 0 then mixS x set (clear ||| hasB set) else (0, 0)
def marksR (ms : List Mk) : Nat → List UInt8 → Snd → Nat → Snd × Nat
  | 0, _, x, n => (x, n)
  | k + 1, t, x, n => match markAt ms (t.drop n) with
    | none => (x, n)
    | some m => marksR ms k t (chgS x m.clear m.set) (n + m.text.size)
def unitR (L : List Nam) (ms : List Mk) (t : List UInt8) : Option (Snd × Nat) := if longN L t = 0 then none else some (marksR ms 4 t (soundOf L (t.take (longN L t))) (longN L t))
/-- A sound that was read, its text, and where it begins; without text: an error. -/
structure Un where
  x : Snd
  text : List UInt8
  at_ : Nat
def skipD (at_ : Nat) (t : List UInt8) : Nat := if 0 < at_ ∧ t.head? = some 46 then 1 else 0
def unitsK (L : List Nam) (ms : List Mk) : Nat → Nat → List UInt8 → List Un
  | 0, _, _ => []
  | f + 1, k, t => if t = [] then [] else match unitR L ms (t.drop (skipD k t)) with
    | none => [⟨(0, 0), [], k + skipD k t⟩]
    | some (x, n) => ⟨x, (t.drop (skipD k t)).take n, k + skipD k t⟩ :: unitsK L ms f (k + skipD k t + n) (t.drop (skipD k t + n))
/-- What was read: the sounds, their texts, the place of an error, the error. -/
structure Rs where
  w : List Snd
  texts : List (List UInt8)
  at_ : Nat
  e : Int
deriving DecidableEq
def readL : List Un → List Snd → List (List UInt8) → Rs
  | [], w, ts => ⟨w, ts, 0, 0⟩
  | u :: r, w, ts => if u.text = [] then ⟨[], [], u.at_, 10⟩ else if w.length = 32 then ⟨[], [], u.at_, 11⟩ else readL r (w ++ [u.x]) (ts ++ [u.text])
def readR (L : List Nam) (ms : List Mk) (t : List UInt8) : Rs := readL (unitsK L ms (t.length + 1) 0 t) [] []
/-! How sounds and words are written. -/
def better (best t : List UInt8) : Bool := decide (best = []) || decide (t.length < best.length) || (decide (t.length = best.length) && decide (t < best))
def isOne (L : List Nam) (ms : List Mk) (s : Snd) (t : List UInt8) : Bool := decide ((readR L ms t).e = 0) && decide ((readR L ms t).w = [s])
def tryS (L : List Nam) (ms : List Mk) (s : Snd) (best t : List UInt8) : List UInt8 := if better best t && isOne L ms s t then t else best
def cands1 (ms : List Mk) (sym : List UInt8) : List (List UInt8) := sym :: ms.flatMap fun a => (sym ++ bs a.text) :: ms.map fun b => sym ++ bs a.text ++ bs b.text
def cands (L : List Nam) (ms : List Mk) : List (List UInt8) := L.flatMap fun x => cands1 ms (bs x.1)
def bestS (L : List Nam) (ms : List Mk) (s : Snd) : List UInt8 := (cands L ms).foldl (tryS L ms s) []
/-! The chapter's examples. -/
end Go.Proofs.YtmepaeahchiglaaGreatDoor
namespace Go.Proofs.YtmepaeahchiglaaGreatDoor
open Go.RowKit

/-- All blocks but those of S are as they were. -/
structure ChgS (S : Nat → Prop) (w w' : World) : Prop where
  os : w'.os = w.os
  tape : w'.tape = w.tape
  output : w'.output = w.output
  size : w.heap.size ≤ w'.heap.size
  block : ∀ k, k < w.heap.size → ¬ S k → w'.heap[k]? = w.heap[k]?
section
variable {S T : Nat → Prop} {a w w' : World}
theorem ChgS.refl (S : Nat → Prop) (w : World) : ChgS S w w := ⟨rfl, rfl, rfl, Nat.le_refl _, fun _ _ _ => rfl⟩
theorem ChgS.trans (h : ChgS S a w) (k : ChgS S w w') : ChgS S a w' :=
  ⟨k.os.trans h.os, k.tape.trans h.tape, k.output.trans h.output, Nat.le_trans h.size k.size, fun i hi hs => (k.block i (Nat.lt_of_lt_of_le hi h.size) hs).trans (h.block i hi hs)⟩
theorem ChgS.mono (h : ChgS S a w) (hs : ∀ k, k < a.heap.size → S k → T k) : ChgS T a w := ⟨h.os, h.tape, h.output, h.size, fun k hk hn => h.block k hk (fun hm => hn (hs k hk hm))⟩
/-- Of what was made behind the beginning nothing is said. -/
theorem ChgS.new (h : ChgS S a w) (k : ChgS T w w') (hT : ∀ i, i < a.heap.size → T i → S i) : ChgS S a w' :=
  ⟨k.os.trans h.os, k.tape.trans h.tape, k.output.trans h.output, Nat.le_trans h.size k.size, fun i hi hs => (k.block i (Nat.lt_of_lt_of_le hi h.size) (fun hm => hs (hT i hi hm))).trans (h.block i hi hs)⟩
theorem ChgS.of_below (h : Below w.heap.size w w') : ChgS S w w' := ⟨h.os, h.tape, h.output, h.size, fun k hk _ => h.block k hk⟩
theorem ChgS.below {B : Nat} (h : ChgS S w w') (hB : ∀ i, S i → B ≤ i) (hw : B ≤ w.heap.size) : Below B w w' :=
  ⟨h.os, h.tape, h.output, h.size, fun k hk => h.block k (by omega) (fun hs => by have := hB k hs; omega)⟩
theorem ChgS.alloc (h : ChgS S a w) (o : Obj) : ChgS S a (w.alloc o) := h.new (T := fun _ => False) (.of_below ((Below.refl _ w).alloc (Nat.le_refl _) o)) (fun _ _ h => h.elim)
theorem ChgS.drewN (h : ChgS S a w) (n : Nat) : ChgS S a (w.drewN n) := ⟨h.os, h.tape, h.output, h.size, h.block⟩
theorem ChgS.setCell (h : ChgS S a w) {p : Addr} (hp : S p.block ∨ a.heap.size ≤ p.block) (u : Value) : ChgS S a (w.setCell p u) :=
  h.new (T := fun k => k = p.block) ⟨rfl, rfl, rfl, by simp [World.setCell], fun k _ hk => Below.heap_setCell w p u k hk⟩ (fun i hi e => by
    rcases hp with hp | hp
    · rw [e]; exact hp
    · omega)
theorem ChgS.grown (h : ChgS S a w) {row : Option Nat} (hg : w.grownBy w' row) (hr : ∀ k, row = some k → S k ∨ a.heap.size ≤ k) : ChgS S a w' :=
  h.new (T := fun k => row = some k) ⟨hg.os, hg.tape, hg.output, hg.size, fun k hk hs => hg.block k hk (fun e => hs e.symm)⟩ (fun i hi e => by
    rcases hr i e with h | h
    · exact h
    · omega)
theorem Blk.chgS {g : Nat} {t : TypeId} {cs : Array Value} (h : Blk w g t cs) (hc : ChgS S w w') (hg : ¬ S g) : Blk w' g t cs := (hc.block g h.lt hg).trans h
theorem own_chgS {base : Nat} {e : TypeId} {size n : Nat} {v : Value} {xs : List Value} (h : w.ownsRow base e size v n xs) (hc : ChgS S w w') (hs : ∀ k, v.ownBlock = some k → ¬ S k) : w'.ownsRow base e size v n xs := by
  rcases h.2 with ⟨rfl, rfl⟩ | ⟨g, cap, cur, rfl, h1, h2, h3⟩
  · exact ⟨h.1, .inl ⟨rfl, rfl⟩⟩
  · have hlt : g < w.heap.size := (Array.getElem?_eq_some_iff.1 h2).1
    exact ⟨h.1, .inr ⟨g, cap, cur, rfl, h1, (hc.block g hlt (hs g rfl)).trans h2, h3⟩⟩
end
/-- A row that lies in a block of S. -/
def RowS (w : World) (S : Nat → Prop) (k : Nat) (A : Option Addr) (n : Nat) (xs : List Value) : Prop := xs.length = n * k ∧ (0 < n → ∃ a, A = some a ∧ S a.block ∧ a.block < w.heap.size ∧ ∀ j u, xs[j]? = some u → w.cell? (a.add j) = some u)
section
variable {S T : Nat → Prop} {w w' : World} {k n : Nat} {A : Option Addr} {xs : List Value}
theorem RowS.mono (h : RowS w S k A n xs) (hs : ∀ b, S b → T b) : RowS w T k A n xs :=
  ⟨h.1, fun hn => by
    obtain ⟨a, e, h1, h2⟩ := h.2 hn
    exact ⟨a, e, hs _ h1, h2⟩⟩
theorem RowS.chg (h : RowS w S k A n xs) (hc : ChgS T w w') (ht : ∀ b, S b → ¬ T b) : RowS w' S k A n xs :=
  ⟨h.1, fun hn => by
    obtain ⟨a, e, h1, h2, h3⟩ := h.2 hn
    refine ⟨a, e, h1, Nat.lt_of_lt_of_le h2 hc.size, fun j u hu => ?_⟩
    rw [← h3 j u hu]
    exact World.cell?_of_block (by rw [block_of_add]; exact hc.block _ h2 (ht _ h1))⟩
theorem RowS.reads (h : RowS w S k A n xs) : Reads w w.heap.size k A n xs :=
  ⟨h.1, fun hn => by
    obtain ⟨a, e, h1, h2, h3⟩ := h.2 hn
    exact ⟨a, e, h2, h3⟩⟩
theorem RowS.of_own {base : Nat} {e : TypeId} {c : Nat} (h : w.ownsRow base e k (.slice A n c) n xs) (hs : ∀ b, (Value.slice A n c).ownBlock = some b → S b) : RowS w S k A n xs := by
  have hr := Reads.of_own h
  refine ⟨hr.1, fun hn => ?_⟩
  obtain ⟨a, rfl, h1, h2⟩ := hr.2 hn
  refine ⟨a, rfl, hs _ ?_, h1, h2⟩
  rcases h.2 with ⟨h4, h5⟩ | ⟨g, cap, cur, h4, _⟩
  · cases h4
  · injection h4 with h4 _ _
    injection h4 with h4
    subst h4; rfl
end
end Go.Proofs.YtmepaeahchiglaaGreatDoor
namespace Go.Proofs.YtmepaeahchiglaaGreatDoor
open Go.RowKit Go.Maps Go.WideMaps

theorem sndRow : (55 : TypeId) < Tryz.prog.types.size := of_decide_eq_true (by kernel_rfl)
theorem sndKey : Tryz.prog.keyTypeAt 2 55 = true := by kernel_rfl
theorem le3 : 2 + 1 ≤ 10000 := by omega
theorem lawSnd : KeyLaw Tryz.prog 55 := deep_law_laid laidOut (m := 2) le3 sndRow sndKey (by rw [Tryz.underlying55])
theorem keySnd : Keyed Tryz.prog 55 := Keyed.of_law lawSnd
/-- What a sound reads as, as a key. -/
def klS (s : Snd) : Lit := .string (keyBytes [.int .u32 s.1, .int .u32 s.2])
theorem wf32 {n : Nat} (h : is32 n) : (Lit.int .u32 n).wf = true := by
  unfold is32 at h
  have h1 : IntKind.u32.min = 0 := rfl
  have h2 : IntKind.u32.max = 4294967295 := rfl
  simp only [Lit.wf, Bool.and_eq_true, decide_eq_true_eq, h1, h2]
  omega
theorem sndKeyT : Tryz.prog.keyType 55 = true := by kernel_rfl
theorem sndCells : Tryz.prog.cellsOf 55 = 2 := by kernel_rfl
theorem u32Cells : Tryz.prog.cellsOf 42 = 1 := by kernel_rfl
theorem typesB : (Tryz.prog.types.size == 0) = false := by kernel_rfl
theorem typesPos : ∃ m, Tryz.prog.types.size = m + 1 := Nat.exists_eq_succ_of_ne_zero (beq_eq_false_iff_ne.1 typesB)
theorem keyS_key {s : Snd} (h : ok32 s) : keyOf Tryz.prog 55 (sndV s) = some (klS s) := by
  have h1 := wf32 h.1
  have h2 := wf32 h.2
  obtain ⟨m, hm⟩ := typesPos
  have lit : ∀ n : Nat, (Lit.int .u32 n).wf = true → Tryz.prog.keyLits (m + 1) 42 [.int .u32 n] = some [.int .u32 n] := fun n hn => by
    unfold Program.keyLits
    simp only [Tryz.underlying42]
    rw [if_pos ⟨trivial, hn⟩]
  unfold keyOf
  rw [Tryz.underlying55]
  simp only
  rw [if_pos (by simp [sndKeyT, Value.formed, Tryz.underlying55, sndCells]), hm]
  unfold Program.keyLits
  simp only [Tryz.underlying55, Value.cells]
  rw [if_pos (by rw [sndCells]; exact ⟨rfl, by simp⟩)]
  simp [u32Cells, lit _ h1, lit _ h2, klS]
theorem klS_inj {a b : Snd} (ha : ok32 a) (hb : ok32 b) (h : klS a = klS b) : a = b := by
  have e := keySnd.inj (keyS_key ha) (h ▸ keyS_key hb)
  unfold sndV at e
  simp only [Value.agg.injEq, Array.mk.injEq, List.cons.injEq, Value.int.injEq, true_and, and_true] at e
  exact Prod.ext (by have := e.1; omega) (by have := e.2; omega)

/-- A map from sounds to ints that the call made: what it holds. -/
def MapKI (w : World) (b n : Nat) (f : Snd → Option Int) : Prop :=
  ∃ D : DataW Unit, w.ownsMap Tryz.prog 55 (plainElem Tryz.prog 3) b n D ∧ IsMap D ∧
    ∀ s : Snd, ok32 s → has D (klS s) = (f s).isSome ∧ ∀ v, f s = some v → D.atKey (klS s) (.lit (.int .i64 0)) = .lit (.int .i64 v)
theorem MapKI.lt {w : World} {b n : Nat} {f : Snd → Option Int} (h : MapKI w b n f) : b < w.heap.size := by
  obtain ⟨D, h1, _⟩ := h; exact h1.lt
theorem MapKI.made (w : World) : MapKI (w.alloc (.map #[] 0)) w.heap.size 0 (fun _ => none) :=
  ⟨.map [], World.ownsMap_made w _ _ _, isMap_empty, fun s _ => ⟨rfl, fun v h => by cases h⟩⟩
theorem MapKI.kept {w w' : World} {b n : Nat} {f : Snd → Option Int} {row : Option Nat} (h : MapKI w b n f) (hg : w.grownBy w' row) (hne : some b ≠ row) : MapKI w' b n f := by
  obtain ⟨D, h1, h2⟩ := h; exact ⟨D, h1.kept hg hne, h2⟩
theorem MapKI.chgS {S : Nat → Prop} {w w' : World} {b n : Nat} {f : Snd → Option Int} (h : MapKI w b n f) (hc : ChgS S w w') (hb : ¬ S b) : MapKI w' b n f := by
  obtain ⟨D, ⟨es, clock, h1, h3⟩, h2⟩ := h
  exact ⟨D, ⟨es, clock, (hc.block b (Array.getElem?_eq_some_iff.1 h1).1 hb).trans h1, h3⟩, h2⟩
theorem MapKI.isMap {w : World} {b n : Nat} {f : Snd → Option Int} (h : MapKI w b n f) : ∃ es clock, w.heap[b]? = some (.map es clock) := by
  obtain ⟨D, ⟨es, clock, hb, _⟩, _⟩ := h; exact ⟨es, clock, hb⟩
theorem MapKI.look {w : World} {b n : Nat} {f : Snd → Option Int} (h : MapKI w b n f) (s : Snd) (hs : ok32 s) :
    (Instr.lookup 263 (.map (some b)) (sndV s) true).run Tryz.prog w = .ok (.tuple #[.int .i64 ((f s).getD 0), .bool (f s).isSome]) w := by
  obtain ⟨D, h1, h2, h3⟩ := h
  obtain ⟨v, ps, hrun, hv⟩ := h1.look_ok keySnd Tryz.underlying263 (zero_int w) (plainElem_int (H := Unit) (a := 0) Tryz.underlying3 (by decide)) (keyS_key hs)
  obtain ⟨c, rfl, hc, _⟩ := plainElem_int_inv Tryz.underlying3 hv
  simp only [Prod.mk.injEq] at hc
  rw [hrun, (h3 s hs).1]
  cases hf : f s with
  | none =>
    have hh : has D (klS s) = false := by rw [(h3 s hs).1, hf]; rfl
    rw [atKey_of_not_has hh] at hc
    have : c = 0 := (Lit.int.inj (DataW.lit.inj hc.1)).2.symm
    subst this; simp only [Option.isSome_none, Option.getD_none]
  | some x =>
    rw [(h3 s hs).2 x hf] at hc
    have : c = x := (Lit.int.inj (DataW.lit.inj hc.1)).2.symm
    subst this; simp only [Option.isSome_some, Option.getD_some]
/-- 'm[s] = v'. -/
theorem wpList_putMapKI {w : World} {ops : Array Oper} {rest : List Oper} {o : Oper} {a : Act} {Q : Exit → Act → World → Prop}
    (hg : o.guard = none) (m x v : Operand) (hop : o.op = Op.mapUpdate 263 m x v) (b n : Nat) (f : Snd → Option Int) (hm : a.eval m = .map (some b)) (h : MapKI w b n f) (hn : n < maxLen)
    (s : Snd) (hs : ok32 s) (i : Int) (hi : (Lit.int .i64 i).wf = true) (hx : a.eval x = sndV s) (hv : a.eval v = .int .i64 i)
    (hK : ∀ w', MapKI w' b (n + 1) (fun t => if t = s then some i else f t) → w.grownBy w' (some b) → wpList Tryz.prog ops Q rest (a.put o.dst undef) w') :
    wpList Tryz.prog ops Q (o :: rest) a w := by
  obtain ⟨D, h1, h2, h3⟩ := h
  refine wpList_mapUpdate_own w hg m x v 263 hop 55 3 keySnd Tryz.underlying263 _ b n D hm h1 hn (sndV s) (.int .i64 i) (klS s) hx hv (keyS_key hs) (.lit (.int .i64 i)) [] (plainElem_int Tryz.underlying3 hi) ?_
  intro w1 hown hgrow
  refine hK w1 ⟨_, hown, h2.put _ _, fun t ht => ?_⟩ hgrow
  have hlit : WideAt.IsKeyLit (klS s) := by first | trivial | rfl | (unfold WideAt.IsKeyLit; trivial)
  by_cases e : t = s
  · subst e
    simp only [↓reduceIte]
    exact ⟨has_put_same h2 hlit _, fun v hv => by injection hv with hv; subst hv; exact atKey_put_same h2 hlit _ _⟩
  · simp only [if_neg e]
    have hne : klS t ≠ klS s := fun h => e (klS_inj ht hs h)
    rw [has_put_other hne, atKey_put_other hne]
    exact h3 t ht

theorem zero_str (w : World) : (zeroValue 9).run Tryz.prog w = .ok (.string ⟨#[]⟩) w := by kernel_rfl
theorem str_eq {a b : ByteArray} (h : a.data.toList = b.data.toList) : a = b := by
  obtain ⟨⟨l⟩⟩ := a; obtain ⟨⟨l'⟩⟩ := b
  simp only at h; rw [h]

/-- A map from sounds to texts that the call made: what it holds. -/
def MapKS (w : World) (b n : Nat) (f : Snd → Option ByteArray) : Prop :=
  ∃ D : DataW Unit, w.ownsMap Tryz.prog 55 (plainElem Tryz.prog 9) b n D ∧ IsMap D ∧
    ∀ s : Snd, ok32 s → has D (klS s) = (f s).isSome ∧ ∀ v, f s = some v → D.atKey (klS s) (.lit (.string [])) = .lit (.string v.data.toList)
theorem MapKS.lt {w : World} {b n : Nat} {f : Snd → Option ByteArray} (h : MapKS w b n f) : b < w.heap.size := by
  obtain ⟨D, h1, _⟩ := h; exact h1.lt
theorem MapKS.made (w : World) : MapKS (w.alloc (.map #[] 0)) w.heap.size 0 (fun _ => none) :=
  ⟨.map [], World.ownsMap_made w _ _ _, isMap_empty, fun s _ => ⟨rfl, fun v h => by cases h⟩⟩
theorem MapKS.kept {w w' : World} {b n : Nat} {f : Snd → Option ByteArray} {row : Option Nat} (h : MapKS w b n f) (hg : w.grownBy w' row) (hne : some b ≠ row) : MapKS w' b n f := by
  obtain ⟨D, h1, h2⟩ := h; exact ⟨D, h1.kept hg hne, h2⟩
theorem MapKS.chgS {S : Nat → Prop} {w w' : World} {b n : Nat} {f : Snd → Option ByteArray} (h : MapKS w b n f) (hc : ChgS S w w') (hb : ¬ S b) : MapKS w' b n f := by
  obtain ⟨D, ⟨es, clock, h1, h3⟩, h2⟩ := h
  exact ⟨D, ⟨es, clock, (hc.block b (Array.getElem?_eq_some_iff.1 h1).1 hb).trans h1, h3⟩, h2⟩
theorem MapKS.isMap {w : World} {b n : Nat} {f : Snd → Option ByteArray} (h : MapKS w b n f) : ∃ es clock, w.heap[b]? = some (.map es clock) := by
  obtain ⟨D, ⟨es, clock, hb, _⟩, _⟩ := h; exact ⟨es, clock, hb⟩
theorem MapKS.look {w : World} {b n : Nat} {f : Snd → Option ByteArray} (h : MapKS w b n f) (s : Snd) (hs : ok32 s) :
    (Instr.lookup 236 (.map (some b)) (sndV s) true).run Tryz.prog w = .ok (.tuple #[.string ((f s).getD ⟨#[]⟩), .bool (f s).isSome]) w := by
  obtain ⟨D, h1, h2, h3⟩ := h
  obtain ⟨v, ps, hrun, hv⟩ := h1.look_ok keySnd Tryz.underlying236 (zero_str w) (plainElem_string (H := Unit) (s := ⟨#[]⟩) Tryz.underlying9 (by decide)) (keyS_key hs)
  obtain ⟨c, rfl, hc, _⟩ := plainElem_string_inv Tryz.underlying9 hv
  simp only [Prod.mk.injEq] at hc
  rw [hrun, (h3 s hs).1]
  cases hf : f s with
  | none =>
    have hh : has D (klS s) = false := by rw [(h3 s hs).1, hf]; rfl
    rw [atKey_of_not_has hh] at hc
    have : c = ⟨#[]⟩ := str_eq (Lit.string.inj (DataW.lit.inj hc.1)).symm
    subst this; simp only [Option.isSome_none, Option.getD_none]
  | some x =>
    rw [(h3 s hs).2 x hf] at hc
    have : c = x := str_eq (Lit.string.inj (DataW.lit.inj hc.1)).symm
    subst this; simp only [Option.isSome_some, Option.getD_some]
end Go.Proofs.YtmepaeahchiglaaGreatDoor
namespace Go.Proofs.YtmepaeahchiglaaGreatDoor
open Go.RowKit Go.Lib

set_option maxRecDepth 20000 in
theorem small_any (c : UInt8) (w : World) : Calls Tryz.prog 207 #[.int .u8 c.toNat] w fun e w' => e = .returned (.bool (smallC c)) ∧ w = w' := by
  have hc := c.toNat_lt
  obtain ⟨r, hr⟩ : ∃ r, smallC c = r := ⟨_, rfl⟩
  rw [hr]
  unfold smallC at hr
  generalize c.toNat = n at *
  have HR := Lib.hid hr
  clear hr
  by_cases h1 : 97 ≤ n
  · by_cases h2 : n ≤ 122
    · obtain rfl : r = true := by rw [← HR.out, decide_eq_true h1, decide_eq_true h2]; rfl
      have g1 : (97 : Int) ≤ (n : Int) := by omega
      have g2 : (n : Int) ≤ 122 := by omega
      clear h1 h2
      go_enter Tryz.func207, Tryz.ntmps207
      go_wp2
      go_ret
      exact ⟨rfl, rfl⟩
    · obtain rfl : r = false := by rw [← HR.out, decide_eq_false h2, decide_eq_false (show ¬ n ≤ 57 by omega)]; simp
      have g1 : (97 : Int) ≤ (n : Int) := by omega
      have g2 : ¬ (n : Int) ≤ 122 := by omega
      have g3 : (48 : Int) ≤ (n : Int) := by omega
      have g4 : ¬ (n : Int) ≤ 57 := by omega
      clear h1 h2
      go_enter Tryz.func207, Tryz.ntmps207
      go_wp2
      go_ret
      exact ⟨rfl, rfl⟩
  · have g1 : ¬ (97 : Int) ≤ (n : Int) := by omega
    by_cases h3 : 48 ≤ n
    · have g3 : (48 : Int) ≤ (n : Int) := by omega
      by_cases h4 : n ≤ 57
      · obtain rfl : r = true := by rw [← HR.out, decide_eq_false h1, decide_eq_true h3, decide_eq_true h4]; rfl
        have g4 : (n : Int) ≤ 57 := by omega
        clear h1 h3 h4
        go_enter Tryz.func207, Tryz.ntmps207
        go_wp2
        go_ret
        exact ⟨rfl, rfl⟩
      · obtain rfl : r = false := by rw [← HR.out, decide_eq_false h1, decide_eq_true h3, decide_eq_false h4]; rfl
        have g4 : ¬ (n : Int) ≤ 57 := by omega
        clear h1 h3 h4
        go_enter Tryz.func207, Tryz.ntmps207
        go_wp2
        go_ret
        exact ⟨rfl, rfl⟩
    · obtain rfl : r = false := by rw [← HR.out, decide_eq_false h1, decide_eq_false h3]; rfl
      have g3 : ¬ (48 : Int) ≤ (n : Int) := by omega
      clear h1 h3
      go_enter Tryz.func207, Tryz.ntmps207
      go_wp2
      go_ret
      exact ⟨rfl, rfl⟩
def otherB : ByteArray := ⟨#[64, 63, 33, 38, 42, 36, 37]⟩
theorem idx_has (l : List UInt8) (c : UInt8) : decide (0 ≤ Lib.indexByte l c) = l.contains c := by
  have hge := Lib.indexByte_ge l c
  by_cases h : Lib.indexByte l c = -1
  · rw [h, decide_eq_false (by decide)]
    have hn := Lib.indexByte_none h
    cases hc : l.contains c with
    | false => rfl
    | true =>
      obtain ⟨k, hk, e⟩ := List.getElem_of_mem (List.contains_iff_mem.1 hc)
      exact absurd (by rw [List.getElem?_eq_getElem hk, e]) (hn k)
  · rw [decide_eq_true (by omega)]
    have hs := (Lib.indexByte_some (l := l) (c := c) (o := (Lib.indexByte l c).toNat) (by omega)).1
    exact (List.contains_iff_mem.2 (List.mem_of_getElem? hs)).symm
theorem otherC_idx (c : UInt8) : otherC c = decide (0 ≤ Lib.indexByte otherB.data.toList c) := (idx_has _ _).symm
set_option maxRecDepth 20000 in
theorem sym_any (c : UInt8) (w : World) : Calls Tryz.prog 209 #[.int .u8 c.toNat] w fun e w' => e = .returned (.bool (symC c)) ∧ w = w' := by
  have hc := c.toNat_lt
  have hsm := small_any c w
  have hi := Tryz.strings_IndexByte otherB c.toNat w
  have hcc : (c.toNat : Int).toNat.toUInt8 = c := by simp
  rw [hcc] at hi
  have ho := otherC_idx c
  obtain ⟨r, hr⟩ : ∃ r, symC c = r := ⟨_, rfl⟩
  rw [hr]
  unfold symC at hr
  generalize smallC c = b1 at *
  generalize Lib.indexByte otherB.data.toList c = k at *
  generalize otherC c = b3 at *
  generalize c.toNat = n at *
  have HR := Lib.hid hr; have HS := Lib.hid hsm; have HI := Lib.hid hi; have HO := Lib.hid ho
  clear hr hsm hi ho hcc
  unfold otherB at HI
  cases b1 with
  | true =>
    obtain rfl : r = true := by rw [← HR.out]; rfl
    go_enter Tryz.func209, Tryz.ntmps209
    go_wp2_with (go_at_call 207; refine HS.out.mono ?_; rintro e w' ⟨rfl, rfl⟩)
    go_ret
    exact ⟨rfl, rfl⟩
  | false =>
    by_cases h1 : 65 ≤ n ∧ n ≤ 90
    · obtain rfl : r = true := by rw [← HR.out, decide_eq_true h1.1, decide_eq_true h1.2]; rfl
      have g1 : (65 : Int) ≤ (n : Int) := by omega
      have g2 : (n : Int) ≤ 90 := by omega
      clear h1
      go_enter Tryz.func209, Tryz.ntmps209
      go_wp2_with (go_at_call 207; refine HS.out.mono ?_; rintro e w' ⟨rfl, rfl⟩)
      go_ret
      exact ⟨rfl, rfl⟩
    · obtain rfl : r = decide (0 ≤ k) := by
        rw [← HR.out, ← HO.out]
        have : (decide (65 ≤ n) && decide (n ≤ 90)) = false := by rw [← Bool.decide_and, decide_eq_false h1]
        rw [this]
        rfl
      by_cases g1 : (65 : Int) ≤ (n : Int)
      · have g2 : decide ((n : Int) ≤ 90) = false := decide_eq_false (by omega)
        clear h1
        go_enter Tryz.func209, Tryz.ntmps209
        go_wp2_with (first | (go_at_call 207; refine HS.out.mono ?_; rintro e w' ⟨rfl, rfl⟩) | (go_at_call 210; refine HI.out.mono ?_; rintro e w' ⟨rfl, rfl⟩))
        go_ret
        exact ⟨rfl, rfl⟩
      · clear h1
        go_enter Tryz.func209, Tryz.ntmps209
        go_wp2_with (first | (go_at_call 207; refine HS.out.mono ?_; rintro e w' ⟨rfl, rfl⟩) | (go_at_call 210; refine HI.out.mono ?_; rintro e w' ⟨rfl, rfl⟩))
        go_ret
        exact ⟨rfl, rfl⟩
/-- What consists asks of its kind of bytes: a contract of the function that was handed in. -/
def KindOf (f : Nat) (p : UInt8 → Bool) : Prop := (∀ args w, (callFunc f args).run Tryz.prog w = .ok (.enter f args) w) ∧ ∀ (c : UInt8) (w : World), Calls Tryz.prog f #[.int .u8 c.toNat] w fun e w' => e = .returned (.bool (p c)) ∧ w = w'
theorem all_take_next {α : Type} (p : α → Bool) (l : List α) (k : Nat) (hk : k < l.length) : (l.take (k + 1)).all p = ((l.take k).all p && p l[k]) := by
  rw [List.take_succ_eq_append_getElem hk, List.all_append]; simp
theorem size_bs (s : ByteArray) : (bs s).length = s.size := by unfold bs; exact Array.length_toList
set_option maxRecDepth 20000 in
theorem consists_any (f : Nat) (p : UInt8 → Bool) (most : Nat) (s : ByteArray) (w : World) (hf : KindOf f p) (hs : s.size ≤ maxLen) :
    Calls Tryz.prog 206 #[.string s, .int .i64 most, .func (.func f) #[] #[]] w fun e w' => e = .returned (.bool (consC p most s)) ∧ w = w' := by
  unfold maxLen at hs
  obtain ⟨r, hr⟩ : ∃ r, consC p most s = r := ⟨_, rfl⟩
  rw [hr]
  unfold consC at hr
  have hl := size_bs s
  obtain ⟨hen, hf⟩ := hf
  have HR := Lib.hid hr; have HL := Lib.hid hl; have HF := Lib.hid hf
  clear hr hl hf
  by_cases h1 : 1 ≤ s.size
  · by_cases h2 : s.size ≤ most
    · have g1 : ¬ (s.size : Int) < 1 := by omega
      have g2 : ¬ (most : Int) < (s.size : Int) := by omega
      have HPRE : Hid (∀ b, (decide (1 ≤ s.size) && decide (s.size ≤ most) && b) = b) := Lib.hid fun b => by rw [decide_eq_true h1, decide_eq_true h2]; rfl
      rw [HPRE.out] at HR
      clear h1 h2
      go_enter Tryz.func206, Tryz.ntmps206
      go_wp2
      go_loop [19] (fun i => ∃ k : Nat, k ≤ s.size ∧ i = .int .i64 k ∧ ((bs s).take k).all p = true) (fun i => s.size - (RowKit.intOf i).toNat)
      case atStart => exact ⟨0, by omega, rfl, rfl⟩
      case round =>
        obtain ⟨k, hk, rfl, hall⟩ := hrel
        have HALL := Lib.hid hall
        clear hall
        by_cases hlt : k < s.size
        · have hkI : (k : Int) < (s.size : Int) := by omega
          have hkb : k < (bs s).length := by rw [HL.out]; exact hlt
          have hst := all_take_next p (bs s) k hkb
          have hge : (bs s)[k] = s[k] := rfl
          have hno : p (bs s)[k] = false → r = false := fun h => by
            rw [← HR.out]
            cases ha : (bs s).all p with
            | false => rfl
            | true => rw [List.all_eq_true.1 ha _ (List.getElem_mem hkb)] at h; cases h
          rw [hge] at hst hno
          have hcall := HF.out s[k] w
          obtain ⟨b, hb⟩ : ∃ b, p s[k] = b := ⟨_, rfl⟩
          rw [hb] at hst hno hcall
          have HST := Lib.hid hst; have HNO := Lib.hid hno; have HC := Lib.hid hcall
          clear hst hge hno hcall hb
          go_wp2_with fail
          refine HC.out.mono ?_
          rintro e w' ⟨rfl, rfl⟩
          cases b with
          | true =>
            go_wp2
            go_round
            case rel => exact ⟨k + 1, by omega, by go_num, by rw [HST.out, HALL.out]; rfl⟩
            case measure => simp [RowKit.intOf]; omega
          | false =>
            obtain rfl := HNO.out rfl
            go_wp2
            go_ret
            exact ⟨rfl, rfl⟩
        · obtain rfl : k = s.size := by omega
          have hr1 : r = true := by
            rw [← HR.out]
            have := HALL.out
            rwa [List.take_of_length_le (by rw [HL.out]; exact Nat.le_refl _)] at this
          subst hr1
          go_wp2
          go_ret
          exact ⟨rfl, rfl⟩
    · have g1 : ¬ (s.size : Int) < 1 := by omega
      have g2 : (most : Int) < (s.size : Int) := by omega
      obtain rfl : r = false := by rw [← HR.out, decide_eq_false h2]; simp
      clear h1 h2
      go_enter Tryz.func206, Tryz.ntmps206
      go_wp2
      go_ret
      exact ⟨rfl, rfl⟩
  · have g1 : (s.size : Int) < 1 := by omega
    obtain rfl : r = false := by rw [← HR.out, decide_eq_false h1]; rfl
    clear h1
    go_enter Tryz.func206, Tryz.ntmps206
    go_wp2
    go_ret
    exact ⟨rfl, rfl⟩
end Go.Proofs.YtmepaeahchiglaaGreatDoor
