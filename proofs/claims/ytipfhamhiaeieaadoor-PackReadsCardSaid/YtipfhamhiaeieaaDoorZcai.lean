/-
  layer 43: bytes.Equal, the reference's Equal of words. Conditions: rows that can be read.
-/
import Derived.Test.YtipfhamhiaeieaaDoorZcaf
import Derived.Laws.IdiomStrings
import Derived.Test.YtipfhamhiaeieaaDoorZcah
import Derived.Test.YtipfhamhiaeieaaDoorZcPkRe
namespace Go.Proofs.YtipfhamhiaeieaaDoor
open Go.RowKit Go.Lib

/-- The string of some bytes. -/
def strB (bs : List Nat) : ByteArray := ⟨(bs.map UInt8.ofNat).toArray⟩
theorem reads_conv {w : World} {B : Nat} {A : Option Addr} {n c : Nat} {bs : List Nat} (h : Reads w B 1 A n (bs.map bv)) (hb : ∀ b ∈ bs, b < 256) : (convert 35 9 (.slice A n c)).run Tryd.prog w = .ok (.string (strB bs)) w := by
  have hl : (bs.map UInt8.ofNat).length = n := by have := h.1; simpa using this
  rcases Nat.eq_zero_or_pos n with h0 | h0
  · subst h0
    obtain rfl : bs = [] := by
      have := h.1
      simpa using this
    rw [run_convert_bytes_string w 35 9 5 A 0 c Tryd.underlying35 Tryd.underlying5 Tryd.underlying9]
    cases A <;> rfl
  · obtain ⟨ad, rfl, _, hc⟩ := h.2 h0
    rw [← hl]
    refine run_convert_bytes_back (P := Tryd.prog) w 35 9 5 ad c (bs.map UInt8.ofNat) Tryd.underlying35 Tryd.underlying5 Tryd.underlying9 (fun j hj => ?_)
    have hj' : j < bs.length := by simpa using hj
    refine hc j _ ?_
    rw [List.getElem?_map, List.getElem?_eq_getElem hj']
    have := hb _ (List.getElem_mem hj')
    simp [bv, Nat.mod_eq_of_lt this]
theorem strB_inj {a b : List Nat} (ha : ∀ x ∈ a, x < 256) (hb : ∀ x ∈ b, x < 256) (h : strB a = strB b) : a = b := by
  have h' : a.map UInt8.ofNat = b.map UInt8.ofNat := by simpa [strB] using h
  have key : ∀ l : List Nat, (∀ x ∈ l, x < 256) → (l.map UInt8.ofNat).map UInt8.toNat = l := by
    intro l hl
    rw [List.map_map]
    conv => rhs; rw [← List.map_id l]
    exact List.map_congr_left fun x hx => by have := hl x hx; simp [Nat.mod_eq_of_lt this]
  rw [← key a ha, ← key b hb, h']
theorem strB_eq {a b : List Nat} (ha : ∀ x ∈ a, x < 256) (hb : ∀ x ∈ b, x < 256) : ((strB a).toList == (strB b).toList) = decide (a = b) := by
  rcases Decidable.em (a = b) with h | h
  · subst h; simp
  · rw [decide_eq_false h, beq_eq_false_iff_ne]
    intro h'
    exact h (strB_inj ha hb (ByteArray.ext (Array.toList_inj.mp (by rw [← ByteArray.toList_eq, ← ByteArray.toList_eq]; exact h'))))
set_option maxRecDepth 20000 in
theorem bytesEq_any (A A' : Option Addr) (n n' c c' B : Nat) (a b : List Nat) (w : World) (ha : Reads w B 1 A n (a.map bv)) (hb : Reads w B 1 A' n' (b.map bv)) (h1 : ∀ x ∈ a, x < 256) (h2 : ∀ x ∈ b, x < 256) :
    Calls Tryd.prog 16 #[.slice A n c, .slice A' n' c'] w fun e w' => e = .returned (.bool (decide (a = b))) ∧ w = w' := by
  have hc1 := reads_conv (c := c) ha h1
  have hc2 := reads_conv (c := c') hb h2
  have heq := strB_eq h1 h2
  generalize decide (a = b) = r at *
  generalize strB a = x at *
  generalize strB b = y at *
  clear ha hb h1 h2
  go_enter Tryd.func16, Tryd.ntmps16
  go_wp2
  go_ret
  exact ⟨rfl, rfl⟩
theorem snd_ne {s t : Snd} : (((s.1 : Int) == (t.1 : Int)) && ((s.2 : Int) == (t.2 : Int))) = decide (s = t) := by
  rw [Bool.eq_iff_iff]
  simp only [Bool.and_eq_true, beq_iff_eq, decide_eq_true_eq, Prod.ext_iff]
  omega
set_option maxRecDepth 20000 in
set_option maxHeartbeats 1000000 in
theorem refEqual_any (A A' : Option Addr) (n n' c c' B : Nat) (a b : List Snd) (w : World) (ha : Reads w B 2 A n (a.flatMap sndC)) (hb : Reads w B 2 A' n' (b.flatMap sndC)) (hB : B ≤ w.heap.size) (hn : n ≤ maxLen) :
    Calls Tryd.prog 29 #[.slice A n c, .slice A' n' c'] w fun e w' => e = .returned (.bool (decide (a = b))) ∧ w.heap = w'.heap ∧ Below w.heap.size w w' := by
  unfold maxLen at hn
  have hal := ha.len_of (fun _ => rfl) (by decide)
  have hbl := hb.len_of (fun _ => rfl) (by decide)
  obtain ⟨r, hr⟩ : ∃ r, decide (a = b) = r := ⟨_, rfl⟩
  rw [hr]
  have HA := Lib.hid ha; have HB := Lib.hid hb; have HAL := Lib.hid hal; have HBL := Lib.hid hbl; have HR := Lib.hid hr
  clear ha hb hal hbl hr
  by_cases hnn : n = n'
  · subst hnn
    go_enter Tryd.func29, Tryd.ntmps29
    go_wp2
    go_loopw [5] (fun i wr => ∃ k : Nat, k ≤ n ∧ i = .int .i64 k ∧ a.take k = b.take k ∧ w.heap = wr.heap ∧ Below w.heap.size w wr) (fun i _ => n - (RowKit.intOf i).toNat)
    case atStart => exact ⟨0, by omega, rfl, rfl, rfl, Below.refl _ _⟩
    case round =>
      obtain ⟨k, hk, rfl, heq, hh, hbw⟩ := hrel
      have HEQ := Lib.hid heq; have HBW := Lib.hid hbw; have HH := Lib.hid hh
      clear heq hbw hh
      by_cases hlt : k < n
      · have hka : k < a.length := by rw [HAL.out]; exact hlt
        have hkb : k < b.length := by rw [HBL.out]; exact hlt
        have hkI : (k : Int) < (n : Int) := by omega
        obtain ⟨ad, rfl, had, hc0, hc1⟩ := snd_cells (HA.out.below (HBW.out.mono hB)) hka
        obtain ⟨ad', rfl, had', hc0', hc1'⟩ := snd_cells (HB.out.below (HBW.out.mono hB)) hkb
        have hT : a.take (k + 1) = b.take (k + 1) ↔ a[k] = b[k] := by
          have e1 := List.take_succ_eq_append_getElem hka
          have e2 := List.take_succ_eq_append_getElem hkb
          rw [e1, e2, HEQ.out]
          exact ⟨fun h => by have := List.append_cancel_left h; simpa using this, fun h => by rw [h]⟩
        have hne : a[k] ≠ b[k] → r = false := fun h => by
          rw [← HR.out, decide_eq_false]
          rintro rfl
          exact h rfl
        generalize a[k] = s at *
        generalize b[k] = t at *
        have HT := Lib.hid hT; have HN := Lib.hid hne
        clear hT hne
        by_cases h1 : s.1 = t.1
        · by_cases h2 : s.2 = t.2
          · have e1 : ((s.1 : Int) == (t.1 : Int)) = true := by rw [h1]; simp
            have e2 : ((s.2 : Int) == (t.2 : Int)) = true := by rw [h2]; simp
            have hst : s = t := Prod.ext h1 h2
            have HST := Lib.hid hst
            clear h1 h2 hst
            go_wp2
            go_region
            go_wp2
            go_roundw
            case rel => exact ⟨k + 1, by omega, by go_num, HT.out.2 HST.out, HH.out, HBW.out.drew⟩
            case measure => simp [RowKit.intOf]; omega
          · have e1 : ((s.1 : Int) == (t.1 : Int)) = true := by rw [h1]; simp
            have e2 : ((s.2 : Int) == (t.2 : Int)) = false := by rw [beq_eq_false_iff_ne]; omega
            have hr0 := HN.out (fun h => h2 (by rw [h]))
            subst hr0
            clear h1 h2
            go_wp2
            go_region
            go_wp2
            go_ret
            exact ⟨rfl, HH.out, HBW.out.drew⟩
        · have e1 : ((s.1 : Int) == (t.1 : Int)) = false := by rw [beq_eq_false_iff_ne]; omega
          have hr0 := HN.out (fun h => h1 (by rw [h]))
          subst hr0
          clear h1
          go_wp2
          go_region
          go_wp2
          go_ret
          exact ⟨rfl, HH.out, HBW.out.drew⟩
      · obtain rfl : k = n := by omega
        have hr1 : r = true := by
          rw [← HR.out, decide_eq_true_eq]
          have h := HEQ.out
          rw [List.take_of_length_le (by rw [HAL.out]; exact Nat.le_refl _), List.take_of_length_le (by rw [HBL.out]; exact Nat.le_refl _)] at h
          exact h
        subst hr1
        go_wp2
        go_ret
        exact ⟨rfl, HH.out, HBW.out⟩
  · have hr0 : r = false := by
      rw [← HR.out, decide_eq_false]
      rintro rfl
      exact hnn (HAL.out.symm.trans HBL.out)
    subst hr0
    have hnI : ((n : Int) != (n' : Int)) = true := by rw [bne_iff_ne]; omega
    go_enter Tryd.func29, Tryd.ntmps29
    go_wp2
    go_ret
    exact ⟨rfl, rfl, Below.refl _ _⟩
end Go.Proofs.YtipfhamhiaeieaaDoor
namespace Go.Proofs.YtipfhamhiaeieaaDoor

def manyS (get : Nat → Rdr (Pt × Nat)) : Nat → Nat → Rdr (List Pt × Nat)
  | 0, left => fun b => some (([], left), b)
  | n + 1, left => thenR (get left) fun x => thenR (manyS get n x.2) fun l r => some ((x.1 :: l.1, l.2), r)
/-- A node, and what is below it. -/
def nodeR (get : Nat → Rdr (Pt × Nat)) (left : Nat) : Rdr (Pt × Nat) := thenR readN fun k =>
  if k = 1 then thenR sndR fun s => thenR flagR fun neg r => some ((.mk 1 s neg 0 0 [], left), r)
  else if k = 3 ∨ k = 4 then thenR countR fun n => thenR (manyS get n left) fun x r => some ((.mk k (0, 0) false 0 0 x.1, x.2), r)
  else if k = 5 then thenR readN fun lo => thenR readN fun hi => thenR (manyS get 1 left) fun x r => some ((.mk 5 (0, 0) false lo ((hi : Int) - 1) x.1, x.2), r)
  else fun r => some ((.mk k (0, 0) false 0 0 [], left), r)
/-- A pattern of at most so many nodes, and how many more there may be. -/
def patR : Nat → Nat → Rdr (Pt × Nat)
  | 0, _ => fun _ => none
  | f + 1, left => if left = 0 then fun _ => none else nodeR (patR f) (left - 1)
theorem patR_zero (f : Nat) (b : List Nat) : patR f 0 b = none := by
  cases f with
  | zero => rfl
  | succ f => show (if (0 : Nat) = 0 then _ else _ : Rdr (Pt × Nat)) b = none; rw [if_pos rfl]
theorem patR_succ (f left : Nat) (b : List Nat) : patR (f + 1) (left + 1) b = nodeR (patR f) left b := by
  show (if left + 1 = 0 then _ else _ : Rdr (Pt × Nat)) b = _
  rw [if_neg (by omega)]; rfl
/-- What was read is so large as the count went down. -/
def Down (get : Nat → Rdr (Pt × Nat)) : Prop := ∀ left b p left' r, get left b = some ((p, left'), r) → ptSize p + left' = left
theorem manyS_down {get : Nat → Rdr (Pt × Nat)} (h : Down get) : ∀ (n left : Nat) (b : List Nat) (l : List Pt) (left' : Nat) (r : List Nat), manyS get n left b = some ((l, left'), r) → l.length = n ∧ ptSizes l + left' = left
  | 0, left, b, l, left', r, e => by
    have e2 : ([] : List Pt) = l ∧ left = left' := by
      injection e with e
      injection e with e _
      injection e with e1 e2
      exact ⟨e1, e2⟩
    obtain ⟨rfl, rfl⟩ := e2
    exact ⟨rfl, by rw [ptSizes_nil, Nat.zero_add]⟩
  | n + 1, left, b, l, left', r, e => by
    obtain ⟨⟨p, l1⟩, s, h1, e⟩ := thenR_out (show thenR (get left) (fun x => thenR (manyS get n x.2) fun l r => some ((x.1 :: l.1, l.2), r)) b = some ((l, left'), r) from e)
    obtain ⟨⟨l2, l3⟩, t, h2, e⟩ := thenR_out e
    simp only [Option.some.injEq, Prod.mk.injEq] at e
    obtain ⟨⟨rfl, rfl⟩, rfl⟩ := e
    have := h _ _ _ _ _ h1
    obtain ⟨i1, i2⟩ := manyS_down h n l1 s l2 l3 t h2
    refine ⟨by rw [List.length_cons, i1], ?_⟩
    rw [ptSizes_cons]; omega
theorem nodeR_down {get : Nat → Rdr (Pt × Nat)} (h : Down get) {left : Nat} {b : List Nat} {p : Pt} {left' : Nat} {r : List Nat} (e : nodeR get left b = some ((p, left'), r)) : ptSize p + left' = left + 1 := by
  unfold nodeR at e
  obtain ⟨k, s, h1, e⟩ := thenR_out e
  split at e
  · obtain ⟨sd, t, h2, e⟩ := thenR_out e
    obtain ⟨neg, u, h3, e⟩ := thenR_out e
    simp only [Option.some.injEq, Prod.mk.injEq] at e
    obtain ⟨⟨rfl, rfl⟩, rfl⟩ := e
    rw [ptSize_mk, ptSizes_nil]; omega
  · split at e
    · obtain ⟨n, t, h2, e⟩ := thenR_out e
      obtain ⟨⟨l2, l3⟩, u, h3, e⟩ := thenR_out e
      simp only [Option.some.injEq, Prod.mk.injEq] at e
      obtain ⟨⟨rfl, rfl⟩, rfl⟩ := e
      have := (manyS_down h _ _ _ _ _ _ h3).2
      rw [ptSize_mk]; omega
    · split at e
      · obtain ⟨lo, t, h2, e⟩ := thenR_out e
        obtain ⟨hi, u, h3, e⟩ := thenR_out e
        obtain ⟨⟨l2, l3⟩, v, h4, e⟩ := thenR_out e
        simp only [Option.some.injEq, Prod.mk.injEq] at e
        obtain ⟨⟨rfl, rfl⟩, rfl⟩ := e
        have := (manyS_down h _ _ _ _ _ _ h4).2
        rw [ptSize_mk]; omega
      · simp only [Option.some.injEq, Prod.mk.injEq] at e
        obtain ⟨⟨rfl, rfl⟩, rfl⟩ := e
        rw [ptSize_mk, ptSizes_nil]; omega
theorem patR_down : ∀ f, Down (patR f)
  | 0 => fun _ _ _ _ _ e => by cases e
  | f + 1 => fun left b p left' r e => by
    cases left with
    | zero => rw [patR_zero] at e; cases e
    | succ left => rw [patR_succ] at e; exact nodeR_down (patR_down f) e
theorem manyS_one {get : Nat → Rdr (Pt × Nat)} {left : Nat} {b : List Nat} : manyS get 1 left b = thenR (get left) (fun x r => some (([x.1], x.2), r)) b := by
  show thenR (get left) (fun x => thenR (manyS get 0 x.2) fun l r => some ((x.1 :: l.1, l.2), r)) b = _
  cases h : get left b with
  | none => rw [thenR_none h, thenR_none h]
  | some q => obtain ⟨x, r⟩ := q; rw [thenR_some h, thenR_some h]; rfl
/-- What comes ahead of the rest of a list. -/
def preS (xs : List Pt) (o : Option ((List Pt × Nat) × List Nat)) : Option ((List Pt × Nat) × List Nat) := o.map fun p => ((xs ++ p.1.1, p.1.2), p.2)
theorem preS_nil (o : Option ((List Pt × Nat) × List Nat)) : preS [] o = o := by cases o <;> rfl
theorem preS_none {xs : List Pt} {get : Nat → Rdr (Pt × Nat)} {left : Nat} {b : List Nat} (n : Nat) (h : get left b = none) : preS xs (manyS get (n + 1) left b) = none := by
  show preS xs (thenR (get left) _ b) = none
  rw [thenR_none h]; rfl
theorem preS_some {xs : List Pt} {get : Nat → Rdr (Pt × Nat)} {left left' : Nat} {b r : List Nat} {p : Pt} (n : Nat) (h : get left b = some ((p, left'), r)) : preS xs (manyS get (n + 1) left b) = preS (xs ++ [p]) (manyS get n left' r) := by
  show preS xs (thenR (get left) (fun x => thenR (manyS get n x.2) fun l r => some ((x.1 :: l.1, l.2), r)) b) = _
  rw [thenR_some h]
  cases h2 : manyS get n left' r with
  | none => rw [thenR_none h2]; rfl
  | some q => obtain ⟨l, t⟩ := q; rw [thenR_some h2]; simp [preS]
/-! Laws. -/
def outR : Rdr Ot := thenR readN fun a => thenR readN fun c => thenR sndR fun s => thenR readN fun t => thenR readN fun o r => some (⟨(a : Int) - 1, c, s, t, o⟩, r)

def textR : Rdr ByteArray := thenR countR fun n r => some (strB (r.take n), r.drop n)
def sideR : Rdr Pt := thenR (patR 41 40) fun x r => some (x.1, r)
def lawR : Rdr Lw := thenR textR fun nm => thenR sideR fun a => thenR sideR fun b => thenR wordR fun ifs => thenR (someR outR) fun outs => thenR readN fun m r => some (⟨nm, a, b, ifs, outs, m⟩, r)
end Go.Proofs.YtipfhamhiaeieaaDoor
namespace Go.Proofs.YtipfhamhiaeieaaDoor
open Go.RowKit Go.Lib

/-- A row that lies in a block of S. -/
def RowF (w : World) (S : Nat → Prop) (k : Nat) (A : Option Addr) (n : Nat) (xs : List Value) : Prop := xs.length = n * k ∧ (0 < n → ∃ a, A = some a ∧ S a.block ∧ ∀ j u, xs[j]? = some u → w.cell? (a.add j) = some u)
theorem RowF.keep {w w' : World} {S S' : Nat → Prop} {k n : Nat} {A : Option Addr} {xs : List Value} (h : RowF w S k A n xs) (hs : ∀ b, S b → S' b) (hk : ∀ q : Addr, S q.block → w'.cell? q = w.cell? q) : RowF w' S' k A n xs :=
  ⟨h.1, fun hn => by
    obtain ⟨a, e, h1, h2⟩ := h.2 hn
    exact ⟨a, e, hs _ h1, fun j u hu => (hk _ (by rw [block_of_add]; exact h1)).trans (h2 j u hu)⟩⟩
theorem RowF.reads {w : World} {S : Nat → Prop} {B k n : Nat} {A : Option Addr} {xs : List Value} (h : RowF w S k A n xs) (hs : ∀ b, S b → b < B) : Reads w B k A n xs :=
  ⟨h.1, fun hn => by
    obtain ⟨a, e, h1, h2⟩ := h.2 hn
    exact ⟨a, e, hs _ h1, h2⟩⟩
mutual
def PatF (w : World) (S : Nat → Prop) : Pt → List Value → Prop
  | .mk k s neg lo hi l, cs => ∃ A c xs, cs = patL k s neg lo hi (.slice A l.length c) ∧ ok32 s ∧ l.length ≤ c ∧ c ≤ maxLen ∧ RowF w S 7 A l.length xs ∧ PatsF w S l xs
def PatsF (w : World) (S : Nat → Prop) : List Pt → List Value → Prop
  | [], xs => xs = []
  | p :: l, xs => ∃ c1 c2, xs = c1 ++ c2 ∧ PatF w S p c1 ∧ PatsF w S l c2
end
theorem patF_mk {w : World} {S : Nat → Prop} {k : Int} {s : Snd} {neg : Bool} {lo hi : Int} {l : List Pt} {cs : List Value} :
    PatF w S (.mk k s neg lo hi l) cs ↔ ∃ A c xs, cs = patL k s neg lo hi (.slice A l.length c) ∧ ok32 s ∧ l.length ≤ c ∧ c ≤ maxLen ∧ RowF w S 7 A l.length xs ∧ PatsF w S l xs := by rw [PatF]
theorem patsF_nil {w : World} {S : Nat → Prop} {xs : List Value} : PatsF w S [] xs ↔ xs = [] := by rw [PatsF]
theorem patsF_cons {w : World} {S : Nat → Prop} {p : Pt} {l : List Pt} {xs : List Value} : PatsF w S (p :: l) xs ↔ ∃ c1 c2, xs = c1 ++ c2 ∧ PatF w S p c1 ∧ PatsF w S l c2 := by rw [PatsF]
mutual
theorem PatF.keep {w w' : World} {S S' : Nat → Prop} (hs : ∀ b, S b → S' b) (hk : ∀ q : Addr, S q.block → w'.cell? q = w.cell? q) : ∀ (p : Pt) (cs : List Value), PatF w S p cs → PatF w' S' p cs
  | .mk k s neg lo hi l, cs, h => by
    rw [patF_mk] at h ⊢
    obtain ⟨A, c, xs, h1, h2, h3, h4, h5, h6⟩ := h
    exact ⟨A, c, xs, h1, h2, h3, h4, h5.keep hs hk, PatsF.keep hs hk l xs h6⟩
theorem PatsF.keep {w w' : World} {S S' : Nat → Prop} (hs : ∀ b, S b → S' b) (hk : ∀ q : Addr, S q.block → w'.cell? q = w.cell? q) : ∀ (l : List Pt) (xs : List Value), PatsF w S l xs → PatsF w' S' l xs
  | [], xs, h => by rw [patsF_nil] at h ⊢; exact h
  | p :: l, xs, h => by
    rw [patsF_cons] at h ⊢
    obtain ⟨c1, c2, e, h1, h2⟩ := h
    exact ⟨c1, c2, e, PatF.keep hs hk p c1 h1, PatsF.keep hs hk l c2 h2⟩
end
mutual
theorem PatF.toC {w : World} {S : Nat → Prop} {B : Nat} (hs : ∀ b, S b → b < B) : ∀ (p : Pt) (cs : List Value), PatF w S p cs → PatC w B p cs
  | .mk k s neg lo hi l, cs, h => by
    rw [patF_mk] at h
    rw [patC_mk]
    obtain ⟨A, c, xs, h1, h2, h3, h4, h5, h6⟩ := h
    exact ⟨A, c, xs, h1, h2, h3, h4, h5.reads hs, PatsF.toC hs l xs h6⟩
theorem PatsF.toC {w : World} {S : Nat → Prop} {B : Nat} (hs : ∀ b, S b → b < B) : ∀ (l : List Pt) (xs : List Value), PatsF w S l xs → PatsC w B l xs
  | [], xs, h => by rw [patsF_nil] at h; rw [patsC_nil]; exact h
  | p :: l, xs, h => by
    rw [patsF_cons] at h
    rw [patsC_cons]
    obtain ⟨c1, c2, e, h1, h2⟩ := h
    exact ⟨c1, c2, e, PatF.toC hs p c1 h1, PatsF.toC hs l c2 h2⟩
end
theorem PatsF.append {w : World} {S : Nat → Prop} {p : Pt} {c2 : List Value} (h2 : PatF w S p c2) : ∀ (l : List Pt) (c1 : List Value), PatsF w S l c1 → PatsF w S (l ++ [p]) (c1 ++ c2)
  | [], c1, h => by
    rw [patsF_nil] at h
    subst h
    exact patsF_cons.2 ⟨c2, [], by simp, h2, patsF_nil.2 rfl⟩
  | q :: l, c1, h => by
    rw [patsF_cons] at h
    obtain ⟨d1, d2, rfl, k1, k2⟩ := h
    rw [List.cons_append, patsF_cons]
    exact ⟨d1, d2 ++ c2, by rw [List.append_assoc], k1, PatsF.append h2 l d2 k2⟩
theorem PatF.form {w : World} {S : Nat → Prop} {p : Pt} {cs : List Value} (h : PatF w S p cs) : ∃ k s neg lo hi A n c, cs = patL k s neg lo hi (.slice A n c) := by
  obtain ⟨k, s, neg, lo, hi, l⟩ := p
  rw [patF_mk] at h
  obtain ⟨A, c, xs, rfl, _⟩ := h
  exact ⟨k, s, neg, lo, hi, _, _, _, rfl⟩
theorem PatF.one {w : World} {S : Nat → Prop} {p : Pt} {cs : List Value} (h : PatF w S p cs) : cs.length = 7 ∧ ∀ u ∈ cs, u.oneCell' = true := by
  obtain ⟨k, s, neg, lo, hi, A, n, c, rfl⟩ := h.form
  refine ⟨rfl, fun u hu => ?_⟩
  simp only [patL, List.mem_cons, List.not_mem_nil, or_false] at hu
  rcases hu with rfl | rfl | rfl | rfl | rfl | rfl | rfl <;> rfl
/-- A row of one's own. -/
theorem own_rowF {w : World} {base : Nat} {e : TypeId} {size n : Nat} {v : Value} {xs : List Value} (h : w.ownsRow base e size v n xs) : ∃ A c, v = .slice A n c ∧ n ≤ c ∧ c ≤ maxLen ∧ RowF w (fun b => v.ownBlock = some b) size A n xs := by
  obtain ⟨A, c, rfl, h1, h2⟩ := ownsRow_form h
  have hr := Reads.of_own h
  refine ⟨A, c, rfl, h1, h2, hr.1, fun hn => ?_⟩
  obtain ⟨a, rfl, _, h3⟩ := hr.2 hn
  refine ⟨a, rfl, ?_, h3⟩
  rcases h.2 with ⟨h4, h5⟩ | ⟨g, cap, cur, h4, _⟩
  · cases h4
  · injection h4 with h4 _ _
    injection h4 with h4
    subst h4; rfl
/-- A pattern without parts. -/
theorem patF_leaf (w : World) (S : Nat → Prop) (k : Int) (s : Snd) (neg : Bool) (lo hi : Int) (h : ok32 s) : PatF w S (.mk k s neg lo hi []) (patL k s neg lo hi (.slice none 0 0)) :=
  patF_mk.2 ⟨none, 0, [], rfl, h, Nat.le_refl _, by unfold maxLen; omega, ⟨rfl, fun hn => absurd hn (Nat.lt_irrefl _)⟩, patsF_nil.2 rfl⟩
theorem patF_node {w : World} {S : Nat → Prop} {k : Int} {s : Snd} {neg : Bool} {lo hi : Int} {l : List Pt} {base : Nat} {v : Value} {xs : List Value} (h : ok32 s) (ho : w.ownsRow base 27 7 v l.length xs) (hv : ∀ b, v.ownBlock = some b → S b) (hp : PatsF w S l xs) :
    PatF w S (.mk k s neg lo hi l) (patL k s neg lo hi v) := by
  obtain ⟨A, c, rfl, h1, h2, h3⟩ := own_rowF ho
  exact patF_mk.2 ⟨A, c, xs, rfl, h, h1, h2, h3.keep hv (fun _ _ => rfl), hp⟩
end Go.Proofs.YtipfhamhiaeieaaDoor
