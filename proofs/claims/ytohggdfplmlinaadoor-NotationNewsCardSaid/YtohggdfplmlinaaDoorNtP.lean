/-
  Layer 4, plainly: inventories, marks, how texts are read and words are written. Conditions: none.
-/
import Derived.Test.YtohggdfplmlinaaDoorNtB
namespace Go.Proofs.YtohggdfplmlinaaDoor

/-- A text's bytes. -/
def bs (s : ByteArray) : List UInt8 := s.data.toList
def smallC (c : UInt8) : Bool := (decide (97 ≤ c.toNat) && decide (c.toNat ≤ 122)) || (decide (48 ≤ c.toNat) && decide (c.toNat ≤ 57))
def otherC (c : UInt8) : Bool := [64, 63, 33, 38, 42, 36, 37].contains c
def symC (c : UInt8) : Bool := smallC c || (decide (65 ≤ c.toNat) && decide (c.toNat ≤ 90)) || otherC c
def signC (c : UInt8) : Bool := [58, 39, 34, 126, 94, 95, 61, 96].contains c
/-- A text of some bytes, at most so many, each of a kind. -/
def consC (p : UInt8 → Bool) (most : Nat) (s : ByteArray) : Bool := decide (1 ≤ s.size) && decide (s.size ≤ most) && (bs s).all p
def okFeat (s : ByteArray) : Bool := consC smallC 16 s && decide (57 < ((bs s).headD 0).toNat)
def okSym (s : ByteArray) : Bool := consC symC 4 s
/-- The error of New of an inventory. -/
def newE (fs : List ByteArray) : Int := if 24 < fs.length then 12 else if fs.all okFeat then (if (fs.map bs).Nodup then 0 else 6) else 15
abbrev Nam := ByteArray × Snd
def belongs (n : Nat) (s : Snd) : Bool := decide (s.1 &&& s.2 = 0 ∧ s.1 ||| s.2 < 2 ^ n)
def hasSym (L : List Nam) (t : List UInt8) : Bool := L.any fun x => decide (bs x.1 = t)
def hasVal (L : List Nam) (s : Snd) : Bool := L.any fun x => decide (x.2 = s)
/-- The error of Add. -/
def addE (n : Nat) (L : List Nam) (sym : ByteArray) (s : Snd) : Int :=
  if okSym sym then (if belongs n s then (if hasSym L (bs sym) || hasVal L s then 6 else if L.length = 256 then 4 else 0) else 14) else 15
def addL (n : Nat) (L : List Nam) (x : Nam) : List Nam := if addE n L x.1 x.2 = 0 then L ++ [x] else L
def addsL (n : Nat) (L xs : List Nam) : List Nam := xs.foldl (addL n) L
structure Mk where
  text : ByteArray
  clear : Nat
  set : Snd
instance : Inhabited Mk := ⟨⟨⟨#[]⟩, 0, (0, 0)⟩⟩
def hasB (s : Snd) : Nat := s.1 ||| s.2
def okMark (s : ByteArray) : Bool := consC signC 3 s
/-- The error of a mark behind others. -/
def markE (n : Nat) (pre : List Mk) (m : Mk) : Int :=
  if okMark m.text then (if m.clear ||| hasB m.set < 2 ^ n ∧ m.clear &&& hasB m.set = 0 ∧ validS m.set = true then (if pre.any (fun y => decide (bs y.text = bs m.text)) then 6 else 0) else 2) else 15
def notE (n : Nat) : List Mk → List Mk → Int
  | _, [] => 0
  | pre, m :: r => if markE n pre m = 0 then notE n (pre ++ [m]) r else markE n pre m
def notK (n : Nat) (ms : List Mk) : Int := if 32 < ms.length then 12 else notE n [] ms
/-- The error of a case. -/
def caseE (fs : List ByteArray) (ms : List Mk) : Int := if newE fs = 0 then notK fs.length ms else newE fs
/-! How a text is read. -/
def symAt (L : List Nam) (t : List UInt8) (n : Nat) : Bool := decide (n ≤ t.length) && hasSym L (t.take n)
def longN (L : List Nam) (t : List UInt8) : Nat := if symAt L t 4 then 4 else if symAt L t 3 then 3 else if symAt L t 2 then 2 else if symAt L t 1 then 1 else 0
def soundOf (L : List Nam) (t : List UInt8) : Snd := ((L.find? fun x => decide (bs x.1 = t)).map (·.2)).getD (0, 0)
def mkLen (b : Option Mk) : Nat := (b.map (·.text.size)).getD 0
def markS (t : List UInt8) (b : Option Mk) (x : Mk) : Option Mk := if (bs x.text).isPrefixOf t && decide (mkLen b < x.text.size) then some x else b
def markAt (ms : List Mk) (t : List UInt8) : Option Mk := ms.foldl (markS t) none
/-- The bits of the first that the second has not (32 bits). -/
def andn (a b : Nat) : Nat := a &&& (4294967295 - b)
def mixS (s t : Snd) (set : Nat) : Snd := (andn s.1 set ||| (t.1 &&& set), andn s.2 set ||| (t.2 &&& set))
def chgS (x : Snd) (clear : Nat) (set : Snd) : Snd := if validS x = true ∧ validS set = true ∧ clear ≤ 16777215 ∧ clear &&& hasB set = 0 then mixS x set (clear ||| hasB set) else (0, 0)
def marksR (ms : List Mk) : Nat → List UInt8 → Snd → Nat → Snd × Nat
  | 0, _, x, n => (x, n)
  | k + 1, t, x, n => match markAt ms (t.drop n) with
    | none => (x, n)
    | some m => marksR ms k t (chgS x m.clear m.set) (n + m.text.size)
def unitR (L : List Nam) (ms : List Mk) (t : List UInt8) : Option (Snd × Nat) := if longN L t = 0 then none else some (marksR ms 4 t (soundOf L (t.take (longN L t))) (longN L t))
/-- A sound that was read, its text, and where it begins; without text: an error. -/
structure Un where
  x : Snd
  text : List UInt8
  at_ : Nat
def skipD (at_ : Nat) (t : List UInt8) : Nat := if 0 < at_ ∧ t.head? = some 46 then 1 else 0
def unitsK (L : List Nam) (ms : List Mk) : Nat → Nat → List UInt8 → List Un
  | 0, _, _ => []
  | f + 1, k, t => if t = [] then [] else match unitR L ms (t.drop (skipD k t)) with
    | none => [⟨(0, 0), [], k + skipD k t⟩]
    | some (x, n) => ⟨x, (t.drop (skipD k t)).take n, k + skipD k t⟩ :: unitsK L ms f (k + skipD k t + n) (t.drop (skipD k t + n))
/-- What was read: the sounds, their texts, the place of an error, the error. -/
structure Rs where
  w : List Snd
  texts : List (List UInt8)
  at_ : Nat
  e : Int
deriving DecidableEq
def readL : List Un → List Snd → List (List UInt8) → Rs
  | [], w, ts => ⟨w, ts, 0, 0⟩
  | u :: r, w, ts => if u.text = [] then ⟨[], [], u.at_, 10⟩ else if w.length = 32 then ⟨[], [], u.at_, 11⟩ else readL r (w ++ [u.x]) (ts ++ [u.text])
def readR (L : List Nam) (ms : List Mk) (t : List UInt8) : Rs := readL (unitsK L ms (t.length + 1) 0 t) [] []
/-! How sounds and words are written. -/
def better (best t : List UInt8) : Bool := decide (best = []) || decide (t.length < best.length) || (decide (t.length = best.length) && decide (t < best))
def isOne (L : List Nam) (ms : List Mk) (s : Snd) (t : List UInt8) : Bool := decide ((readR L ms t).e = 0) && decide ((readR L ms t).w = [s])
def tryS (L : List Nam) (ms : List Mk) (s : Snd) (best t : List UInt8) : List UInt8 := if better best t && isOne L ms s t then t else best
def cands1 (ms : List Mk) (sym : List UInt8) : List (List UInt8) := sym :: ms.flatMap fun a => (sym ++ bs a.text) :: ms.map fun b => sym ++ bs a.text ++ bs b.text
def cands (L : List Nam) (ms : List Mk) : List (List UInt8) := L.flatMap fun x => cands1 ms (bs x.1)
def bestS (L : List Nam) (ms : List Mk) (s : Snd) : List UInt8 := (cands L ms).foldl (tryS L ms s) []
def joinS (L : List Nam) (ms : List Mk) (done : List Snd) (out x : List UInt8) (s : Snd) : List UInt8 :=
  if (readR L ms (out ++ x)).e = 0 ∧ (readR L ms (out ++ x)).w = done ++ [s] then out ++ x else out ++ [46] ++ x
def printK (L : List Nam) (ms : List Mk) : List Snd → List UInt8 → List Snd → Option (List UInt8)
  | _, out, [] => some out
  | done, out, s :: r => if bestS L ms s = [] then none else printK L ms (done ++ [s]) (joinS L ms done out (bestS L ms s) s) r
def printR (L : List Nam) (ms : List Mk) (w : List Snd) : List UInt8 × Int := if wordE w = 0 then (match printK L ms [] [] w with
    | none => ([], 14)
    | some o => (o, 0)) else ([], wordE w)
def normalR (L : List Nam) (ms : List Mk) (t : List UInt8) : List UInt8 × Int := if (readR L ms t).e = 0 then printR L ms (readR L ms t).w else ([], (readR L ms t).e)
def sameR (L : List Nam) (ms : List Mk) (a b : List UInt8) : Bool := decide ((readR L ms a).e = 0) && (decide ((readR L ms b).e = 0) && decide ((readR L ms a).w = (readR L ms b).w))
/-! The chapter's examples. -/
def exF : List ByteArray := [⟨#[118, 111, 105, 99, 101]⟩, ⟨#[115, 116, 111, 112]⟩, ⟨#[108, 111, 110, 103]⟩]
def exL : List Nam := [(⟨#[116]⟩, (2, 1)), (⟨#[115]⟩, (0, 3)), (⟨#[116, 115]⟩, (0, 1)), (⟨#[97]⟩, (1, 2))]
def exM : List Mk := [⟨⟨#[58]⟩, 0, (4, 0)⟩, ⟨⟨#[95]⟩, 1, (0, 0)⟩]
set_option maxRecDepth 20000 in
theorem ex_new : newE exF = 0 := by decide
set_option maxRecDepth 20000 in
theorem ex_adds : addsL 3 [] exL = exL := by decide +kernel
set_option maxRecDepth 20000 in
theorem ex_marks : notK 3 exM = 0 := by decide
set_option maxRecDepth 20000 in
theorem ex_read1 : readR exL exM [116, 46, 115, 97] = ⟨[(2, 1), (0, 3), (1, 2)], [[116], [115], [97]], 0, 0⟩ := by decide +kernel
set_option maxRecDepth 20000 in
theorem ex_print : printR exL exM [(2, 1), (0, 3), (1, 2)] = ([116, 46, 115, 97], 0) := by decide +kernel
set_option maxRecDepth 20000 in
theorem ex_read2 : readR exL exM [116, 46] = ⟨[], [], 2, 10⟩ := by decide +kernel
set_option maxRecDepth 20000 in
theorem ex_normal : normalR exL exM [116, 46, 97] = ([116, 97], 0) := by decide +kernel
end Go.Proofs.YtohggdfplmlinaaDoor
