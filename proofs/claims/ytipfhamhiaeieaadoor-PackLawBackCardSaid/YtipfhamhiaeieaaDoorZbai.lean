/-
  Plain facts of layer 43: patterns and laws, read. Conditions: none.
-/
import Derived.Test.YtipfhamhiaeieaaDoorZbPkLx
import Derived.Test.YtipfhamhiaeieaaDoorZbah
import Derived.Test.YtipfhamhiaeieaaDoorShelf
import Derived.Shelf.Strings.SlTrimAscii
namespace Go.Proofs.YtipfhamhiaeieaaDoor

def manyS (get : Nat → Rdr (Pt × Nat)) : Nat → Nat → Rdr (List Pt × Nat)
  | 0, left => fun b => some (([], left), b)
  | n + 1, left => thenR (get left) fun x => thenR (manyS get n x.2) fun l r => some ((x.1 :: l.1, l.2), r)
/-- A node, and what is below it. -/
def nodeR (get : Nat → Rdr (Pt × Nat)) (left : Nat) : Rdr (Pt × Nat) := thenR readN fun k =>
  if k = 1 then thenR sndR fun s => thenR flagR fun neg r => some ((.mk 1 s neg 0 0 [], left), r)
  else if k = 3 ∨ k = 4 then thenR countR fun n => thenR (manyS get n left) fun x r => some ((.mk k (0, 0) false 0 0 x.1, x.2), r)
  else if k = 5 then thenR readN fun lo => thenR readN fun hi => thenR (manyS get 1 left) fun x r => some ((.mk 5 (0, 0) false lo ((hi : Int) - 1) x.1, x.2), r)
  else fun r => some ((.mk k (0, 0) false 0 0 [], left), r)
/-- A pattern of at most so many nodes, and how many more there may be. -/
def patR : Nat → Nat → Rdr (Pt × Nat)
  | 0, _ => fun _ => none
  | f + 1, left => if left = 0 then fun _ => none else nodeR (patR f) (left - 1)
theorem patR_zero (f : Nat) (b : List Nat) : patR f 0 b = none := by
  cases f with
  | zero => rfl
  | succ f => show (if (0 : Nat) = 0 then _ else _ : Rdr (Pt × Nat)) b = none; rw [if_pos rfl]
theorem patR_succ (f left : Nat) (b : List Nat) : patR (f + 1) (left + 1) b = nodeR (patR f) left b := by
  show (if left + 1 = 0 then _ else _ : Rdr (Pt × Nat)) b = _
  rw [if_neg (by omega)]; rfl
/-- What was read is so large as the count went down. -/
def Down (get : Nat → Rdr (Pt × Nat)) : Prop := ∀ left b p left' r, get left b = some ((p, left'), r) → ptSize p + left' = left
theorem manyS_down {get : Nat → Rdr (Pt × Nat)} (h : Down get) : ∀ (n left : Nat) (b : List Nat) (l : List Pt) (left' : Nat) (r : List Nat), manyS get n left b = some ((l, left'), r) → l.length = n ∧ ptSizes l + left' = left
  | 0, left, b, l, left', r, e => by
    have e2 : ([] : List Pt) = l ∧ left = left' := by
      injection e with e
      injection e with e _
      injection e with e1 e2
      exact ⟨e1, e2⟩
    obtain ⟨rfl, rfl⟩ := e2
    exact ⟨rfl, by rw [ptSizes_nil, Nat.zero_add]⟩
  | n + 1, left, b, l, left', r, e => by
    obtain ⟨⟨p, l1⟩, s, h1, e⟩ := thenR_out (show thenR (get left) (fun x => thenR (manyS get n x.2) fun l r => some ((x.1 :: l.1, l.2), r)) b = some ((l, left'), r) from e)
    obtain ⟨⟨l2, l3⟩, t, h2, e⟩ := thenR_out e
    simp only [Option.some.injEq, Prod.mk.injEq] at e
    obtain ⟨⟨rfl, rfl⟩, rfl⟩ := e
    have := h _ _ _ _ _ h1
    obtain ⟨i1, i2⟩ := manyS_down h n l1 s l2 l3 t h2
    refine ⟨by rw [List.length_cons, i1], ?_⟩
    rw [ptSizes_cons]; omega
theorem nodeR_down {get : Nat → Rdr (Pt × Nat)} (h : Down get) {left : Nat} {b : List Nat} {p : Pt} {left' : Nat} {r : List Nat} (e : nodeR get left b = some ((p, left'), r)) : ptSize p + left' = left + 1 := by
  unfold nodeR at e
  obtain ⟨k, s, h1, e⟩ := thenR_out e
  split at e
  · obtain ⟨sd, t, h2, e⟩ := thenR_out e
    obtain ⟨neg, u, h3, e⟩ := thenR_out e
    simp only [Option.some.injEq, Prod.mk.injEq] at e
    obtain ⟨⟨rfl, rfl⟩, rfl⟩ := e
    rw [ptSize_mk, ptSizes_nil]; omega
  · split at e
    · obtain ⟨n, t, h2, e⟩ := thenR_out e
      obtain ⟨⟨l2, l3⟩, u, h3, e⟩ := thenR_out e
      simp only [Option.some.injEq, Prod.mk.injEq] at e
      obtain ⟨⟨rfl, rfl⟩, rfl⟩ := e
      have := (manyS_down h _ _ _ _ _ _ h3).2
      rw [ptSize_mk]; omega
    · split at e
      · obtain ⟨lo, t, h2, e⟩ := thenR_out e
        obtain ⟨hi, u, h3, e⟩ := thenR_out e
        obtain ⟨⟨l2, l3⟩, v, h4, e⟩ := thenR_out e
        simp only [Option.some.injEq, Prod.mk.injEq] at e
        obtain ⟨⟨rfl, rfl⟩, rfl⟩ := e
        have := (manyS_down h _ _ _ _ _ _ h4).2
        rw [ptSize_mk]; omega
      · simp only [Option.some.injEq, Prod.mk.injEq] at e
        obtain ⟨⟨rfl, rfl⟩, rfl⟩ := e
        rw [ptSize_mk, ptSizes_nil]; omega
theorem patR_down : ∀ f, Down (patR f)
  | 0 => fun _ _ _ _ _ e => by cases e
  | f + 1 => fun left b p left' r e => by
    cases left with
    | zero => rw [patR_zero] at e; cases e
    | succ left => rw [patR_succ] at e; exact nodeR_down (patR_down f) e
theorem manyS_one {get : Nat → Rdr (Pt × Nat)} {left : Nat} {b : List Nat} : manyS get 1 left b = thenR (get left) (fun x r => some (([x.1], x.2), r)) b := by
  show thenR (get left) (fun x => thenR (manyS get 0 x.2) fun l r => some ((x.1 :: l.1, l.2), r)) b = _
  cases h : get left b with
  | none => rw [thenR_none h, thenR_none h]
  | some q => obtain ⟨x, r⟩ := q; rw [thenR_some h, thenR_some h]; rfl
/-- What comes ahead of the rest of a list. -/
def preS (xs : List Pt) (o : Option ((List Pt × Nat) × List Nat)) : Option ((List Pt × Nat) × List Nat) := o.map fun p => ((xs ++ p.1.1, p.1.2), p.2)
theorem preS_nil (o : Option ((List Pt × Nat) × List Nat)) : preS [] o = o := by cases o <;> rfl
theorem preS_none {xs : List Pt} {get : Nat → Rdr (Pt × Nat)} {left : Nat} {b : List Nat} (n : Nat) (h : get left b = none) : preS xs (manyS get (n + 1) left b) = none := by
  show preS xs (thenR (get left) _ b) = none
  rw [thenR_none h]; rfl
theorem preS_some {xs : List Pt} {get : Nat → Rdr (Pt × Nat)} {left left' : Nat} {b r : List Nat} {p : Pt} (n : Nat) (h : get left b = some ((p, left'), r)) : preS xs (manyS get (n + 1) left b) = preS (xs ++ [p]) (manyS get n left' r) := by
  show preS xs (thenR (get left) (fun x => thenR (manyS get n x.2) fun l r => some ((x.1 :: l.1, l.2), r)) b) = _
  rw [thenR_some h]
  cases h2 : manyS get n left' r with
  | none => rw [thenR_none h2]; rfl
  | some q => obtain ⟨l, t⟩ := q; rw [thenR_some h2]; simp [preS]
/-! Laws. -/
def outR : Rdr Ot := thenR readN fun a => thenR readN fun c => thenR sndR fun s => thenR readN fun t => thenR readN fun o r => some (⟨(a : Int) - 1, c, s, t, o⟩, r)

def textR : Rdr ByteArray := thenR countR fun n r => some (strB (r.take n), r.drop n)
def sideR : Rdr Pt := thenR (patR 41 40) fun x r => some (x.1, r)
def lawR : Rdr Lw := thenR textR fun nm => thenR sideR fun a => thenR sideR fun b => thenR wordR fun ifs => thenR (someR outR) fun outs => thenR readN fun m r => some (⟨nm, a, b, ifs, outs, m⟩, r)
end Go.Proofs.YtipfhamhiaeieaaDoor
namespace Go.Proofs.YtipfhamhiaeieaaDoor

mutual
def pt32 : Pt → Prop
  | .mk _ s _ _ _ l => ok32 s ∧ pts32 l
def pts32 : List Pt → Prop
  | [] => True
  | p :: l => pt32 p ∧ pts32 l
end
theorem pt32_mk {k : Int} {s : Snd} {neg : Bool} {lo hi : Int} {l : List Pt} : pt32 (.mk k s neg lo hi l) ↔ ok32 s ∧ pts32 l := by rw [pt32]
theorem pts32_cons {p : Pt} {l : List Pt} : pts32 (p :: l) ↔ pt32 p ∧ pts32 l := by rw [pts32]
theorem back_pats {get : Nat → Rdr (Pt × Nat)} {f : Nat} (h : ∀ p, ptOk p = true → pt32 p → ∀ left r, ptSize p ≤ left → left < f → get left (patB p ++ r) = some ((p, left - ptSize p), r)) : ∀ (l : List Pt) (left : Nat) (r : List Nat), ptsOk l = true → pts32 l → ptSizes l ≤ left → left < f →
    manyS get l.length left (patsB l ++ r) = some ((l, left - ptSizes l), r)
  | [], left, r, _, _, _, _ => by rw [patsB_nil, ptSizes_nil]; rfl
  | p :: l, left, r, h1, h2, h3, h4 => by
    rw [ptsOk_cons, Bool.and_eq_true] at h1
    rw [pts32_cons] at h2
    rw [ptSizes_cons] at h3 ⊢
    have hp := h p h1.1 h2.1 left (patsB l ++ r) (by omega) h4
    have hl := back_pats h l (left - ptSize p) r h1.2 h2.2 (by omega) (by omega)
    show thenR (get left) (fun x => thenR (manyS get l.length x.2) fun l r => some ((x.1 :: l.1, l.2), r)) (patsB (p :: l) ++ r) = _
    rw [patsB_cons, List.append_assoc, thenR_some hp, thenR_some hl, Nat.sub_sub]
theorem flag_back (b : Bool) (r : List Nat) : flagR (numB (if b then 1 else 0) ++ r) = some (b, r) := by
  unfold flagR
  cases b with
  | false => show thenR readN _ (numB 0 ++ r) = _; rw [thenR_some (readN_num (n := 0) (by decide) r)]; rfl
  | true => show thenR readN _ (numB 1 ++ r) = _; rw [thenR_some (readN_num (n := 1) (by decide) r)]; rfl
theorem patB_pos (p : Pt) : 0 < (patB p).length := by
  obtain ⟨k, s, neg, lo, hi, l⟩ := p
  rw [patB_mk, List.length_append]
  have := numB_pos k.toNat
  omega
theorem patsB_long : ∀ l : List Pt, l.length ≤ (patsB l).length
  | [] => Nat.zero_le _
  | p :: l => by
    rw [patsB_cons, List.length_append, List.length_cons]
    have := patB_pos p
    have := patsB_long l
    omega
theorem back_pat : ∀ (f : Nat), f ≤ 1000 → ∀ (p : Pt), ptOk p = true → pt32 p → ∀ (left : Nat) (r : List Nat), ptSize p ≤ left → left < f → patR f left (patB p ++ r) = some ((p, left - ptSize p), r)
  | 0, _, _, _, _, _, _, _, h => absurd h (Nat.not_lt_zero _)
  | f + 1, hf, .mk k s neg lo hi l, hok, h32, left, r, hsz, hlt => by
    rw [ptOk_mk, Bool.and_eq_true] at hok
    obtain ⟨hn, hl⟩ := hok
    rw [pt32_mk] at h32
    rw [ptSize_mk] at hsz ⊢
    obtain ⟨left, rfl⟩ : ∃ m, left = m + 1 := ⟨left - 1, by omega⟩
    rw [patR_succ, patB_mk]
    have hlen := ptSizes_len l
    have hparts := back_pats (f := f) (get := patR f) (fun p h1 h2 left r h3 h4 => back_pat f (by omega) p h1 h2 left r h3 h4) l left r hl h32.2 (by omega) (by omega)
    have hsub : left + 1 - (1 + ptSizes l) = left - ptSizes l := by omega
    rw [hsub]
    unfold nodeOk at hn
    unfold nodeR
    by_cases k1 : k = 1
    · rw [if_pos k1, Bool.and_eq_true, decide_eq_true_iff] at hn
      obtain ⟨⟨rfl, rfl, hl0⟩, _⟩ := hn
      obtain rfl : l = [] := List.length_eq_zero_iff.1 hl0
      subst k1
      rw [if_pos rfl, List.append_assoc, show Int.toNat 1 = 1 from rfl, thenR_some (readN_num (n := 1) (by decide) _), if_pos rfl, List.append_assoc, thenR_some (back_snd s _ h32.1), thenR_some (flag_back neg r), ptSizes_nil]
      rfl
    · rw [if_neg k1, Bool.and_eq_true, Bool.and_eq_true, decide_eq_true_iff] at hn
      obtain ⟨⟨rfl, hneg⟩, hn⟩ := hn
      obtain rfl : neg = false := by cases neg <;> simp at hneg ⊢
      rw [if_neg k1]
      by_cases k2 : k = 0 ∨ k = 2 ∨ k = 6
      · rw [if_pos k2, decide_eq_true_iff] at hn
        obtain ⟨rfl, rfl, hl0⟩ := hn
        obtain rfl : l = [] := List.length_eq_zero_iff.1 hl0
        rw [if_neg (by omega), if_neg (by omega), List.append_nil, thenR_some (readN_num (n := k.toNat) (by show k.toNat < 4294967296; omega) _), if_neg (by omega), if_neg (by omega), if_neg (by omega), ptSizes_nil, show ((k.toNat : Nat) : Int) = k by omega]
        rfl
      · rw [if_neg k2] at hn
        by_cases k3 : k = 3 ∨ k = 4
        · rw [if_pos k3, decide_eq_true_iff] at hn
          obtain ⟨rfl, rfl⟩ := hn
          have hcnt : countR (numB l.length ++ (patsB l ++ r)) = some (l.length, patsB l ++ r) := countR_num (by show l.length < 4294967296; omega) (by
            rw [List.length_append]
            have := patsB_long l
            omega)
          rw [if_pos k3, List.append_assoc, thenR_some (readN_num (n := k.toNat) (by show k.toNat < 4294967296; omega) _), if_neg (by omega), if_pos (by omega), List.append_assoc, thenR_some hcnt, thenR_some hparts, show ((k.toNat : Nat) : Int) = k by omega]
        · rw [if_neg k3] at hn
          by_cases k5 : k = 5
          · rw [if_pos k5, decide_eq_true_iff] at hn
            obtain ⟨hl1, h0, h32', hhi⟩ := hn
            subst k5
            rw [hl1] at hparts
            have hhi' : -1 ≤ hi ∧ hi ≤ 32 := by rcases hhi with h | h <;> omega
            rw [if_neg k3, if_pos rfl, List.append_assoc, show Int.toNat 5 = 5 from rfl, thenR_some (readN_num (n := 5) (by decide) _), if_neg (by decide), if_neg (by decide), if_pos rfl, List.append_assoc, thenR_some (readN_num (n := lo.toNat) (by show lo.toNat < 4294967296; omega) _), List.append_assoc, thenR_some (readN_num (n := (hi + 1).toNat) (by show (hi + 1).toNat < 4294967296; omega) _), thenR_some hparts, show ((lo.toNat : Nat) : Int) = lo by omega, show (((hi + 1).toNat : Nat) : Int) - 1 = hi by omega]
          · rw [if_neg k5] at hn
            cases hn
end Go.Proofs.YtipfhamhiaeieaaDoor
namespace Go.Proofs.YtipfhamhiaeieaaDoor

theorem part_then {α β : Type} {g : Rdr α} {f : α → Rdr β} {x : α} {A B : List Nat} {m : Nat} (h1 : ∀ r, g (A ++ r) = some (x, r)) (h2 : m < A.length → g (A.take m) = none) (h3 : ∀ k, k < B.length → f x (B.take k) = none) (hm : m < (A ++ B).length) : thenR g f ((A ++ B).take m) = none := by
  rw [List.length_append] at hm
  rcases Nat.lt_or_ge m A.length with h | h
  · rw [List.take_append_of_le_length (by omega)]
    exact thenR_none (h2 h)
  · rw [List.take_append, List.take_of_length_le h, thenR_some (h1 _)]
    exact h3 _ (by omega)
theorem part_pats {get : Nat → Rdr (Pt × Nat)} {f : Nat} (hb : ∀ p, ptOk p = true → pt32 p → ∀ left r, ptSize p ≤ left → left < f → get left (patB p ++ r) = some ((p, left - ptSize p), r)) (h : ∀ p, ptOk p = true → pt32 p → ∀ left m, ptSize p ≤ left → left < f → m < (patB p).length → get left ((patB p).take m) = none) :
    ∀ (l : List Pt) (left m : Nat), ptsOk l = true → pts32 l → ptSizes l ≤ left → left < f → m < (patsB l).length → manyS get l.length left ((patsB l).take m) = none
  | [], _, m, _, _, _, _, hm => by rw [patsB_nil] at hm; exact absurd hm (Nat.not_lt_zero _)
  | p :: l, left, m, h1, h2, h3, h4, hm => by
    rw [ptsOk_cons, Bool.and_eq_true] at h1
    rw [pts32_cons] at h2
    rw [ptSizes_cons] at h3
    show thenR (get left) (fun x => thenR (manyS get l.length x.2) fun l r => some ((x.1 :: l.1, l.2), r)) ((patsB (p :: l)).take m) = none
    rw [patsB_cons] at hm ⊢
    refine part_then (fun r => hb p h1.1 h2.1 left r (by omega) h4) (fun hlt => h p h1.1 h2.1 left m (by omega) h4 hlt) (fun k hk => ?_) hm
    exact thenR_none (part_pats hb h l (left - ptSize p) k h1.2 h2.2 (by omega) (by omega) hk)
theorem part_flag (b : Bool) {q : Nat} (h : q < (numB (if b then 1 else 0)).length) : flagR ((numB (if b then 1 else 0)).take q) = none := by
  unfold flagR
  exact thenR_none (readN_part h)
theorem part_pat : ∀ (f : Nat), f ≤ 1000 → ∀ (p : Pt), ptOk p = true → pt32 p → ∀ (left m : Nat), ptSize p ≤ left → left < f → m < (patB p).length → patR f left ((patB p).take m) = none
  | 0, _, _, _, _, _, _, _, h, _ => absurd h (Nat.not_lt_zero _)
  | f + 1, hf, .mk k s neg lo hi l, hok, h32, left, m, hsz, hlt, hm => by
    rw [ptOk_mk, Bool.and_eq_true] at hok
    obtain ⟨hn, hl⟩ := hok
    rw [pt32_mk] at h32
    rw [ptSize_mk] at hsz
    obtain ⟨left, rfl⟩ : ∃ m, left = m + 1 := ⟨left - 1, by omega⟩
    rw [patB_mk] at hm ⊢
    rw [patR_succ]
    have hlen := ptSizes_len l
    have hparts := fun q hq => part_pats (f := f) (get := patR f) (fun p h1 h2 left r h3 h4 => back_pat f (by omega) p h1 h2 left r h3 h4) (fun p h1 h2 left m h3 h4 h5 => part_pat f (by omega) p h1 h2 left m h3 h4 h5) l left q hl h32.2 (by omega) (by omega) hq
    have hk := nodeOk_cases hn
    unfold nodeOk at hn
    unfold nodeR
    refine part_then (x := k.toNat) (fun r => readN_num (by show k.toNat < 4294967296; omega) r) (fun h => readN_part h) (fun q hq => ?_) hm
    by_cases k1 : k = 1
    · rw [if_pos k1] at hq ⊢
      rw [if_pos (by omega)]
      exact part_then (fun r => back_snd s r h32.1) (fun h => part_snd s q h32.1 h) (fun q' hq' => thenR_none (part_flag neg hq')) hq
    · rw [if_neg k1] at hq ⊢
      rw [if_neg (by omega)]
      by_cases k3 : k = 3 ∨ k = 4
      · rw [if_pos k3] at hq ⊢
        rw [if_pos (by omega)]
        rw [List.length_append] at hq
        have h4 : l.length < 4294967296 := by omega
        rcases Nat.lt_or_ge q (numB l.length).length with h | h
        · rw [List.take_append_of_le_length (by omega)]
          exact thenR_none (by unfold countR; exact thenR_none (readN_part h))
        · rw [List.take_append, List.take_of_length_le h]
          by_cases hle : l.length ≤ ((patsB l).take (q - (numB l.length).length)).length
          · rw [thenR_some (countR_num h4 hle)]
            exact thenR_none (hparts _ (by omega))
          · exact thenR_none (by unfold countR; rw [thenR_some (readN_num h4 _), if_neg hle])
      · rw [if_neg k3] at hq ⊢
        rw [if_neg (by omega)]
        by_cases k5 : k = 5
        · rw [if_pos k5] at hq ⊢
          rw [if_pos (by omega)]
          have hb5 : 0 ≤ lo ∧ lo ≤ 32 ∧ -1 ≤ hi ∧ hi ≤ 32 ∧ l.length = 1 := by omega
          refine part_then (x := lo.toNat) (fun r => readN_num (by show lo.toNat < 4294967296; omega) r) (fun h => readN_part h) (fun q1 hq1 => ?_) hq
          refine part_then (x := (hi + 1).toNat) (fun r => readN_num (by show (hi + 1).toNat < 4294967296; omega) r) (fun h => readN_part h) (fun q2 hq2 => ?_) hq1
          have := hparts q2 hq2
          rw [hb5.2.2.2.2] at this
          exact thenR_none this
        · rw [if_neg k5] at hq
          exact absurd hq (Nat.not_lt_zero _)
end Go.Proofs.YtipfhamhiaeieaaDoor
namespace Go.Proofs.YtipfhamhiaeieaaDoor
open Go.RowKit Go.Lib

def okByte (c : UInt8) : Bool := (decide (97 ≤ c.toNat) && decide (c.toNat ≤ 122)) || (decide (65 ≤ c.toNat) && decide (c.toNat ≤ 90)) || (decide (48 ≤ c.toNat) && decide (c.toNat ≤ 57)) || decide (c.toNat = 45)
def okName (s : ByteArray) : Bool := decide (0 < s.size) && decide (s.size ≤ 24) && s.data.toList.all okByte
/-- The bytes of names. -/
def lettersB : ByteArray := ⟨#[97, 98, 99, 100, 101, 102, 103, 104, 105, 106, 107, 108, 109, 110, 111, 112, 113, 114, 115, 116, 117, 118, 119, 120, 121, 122, 65, 66, 67, 68, 69, 70, 71, 72, 73, 74, 75, 76, 77, 78, 79, 80, 81, 82, 83, 84, 85, 86, 87, 88, 89, 90, 48, 49, 50, 51, 52, 53, 54, 55, 56, 57, 45]⟩
theorem okByte_mem (c : UInt8) : okByte c = lettersB.data.toList.contains c := by
  have h : ∀ n : Fin 256, okByte (UInt8.ofNat n.val) = lettersB.data.toList.contains (UInt8.ofNat n.val) := by decide +kernel
  have := h ⟨c.toNat, c.toNat_lt⟩
  simpa using this
theorem dropWhile_nil {α : Type} (p : α → Bool) (l : List α) : l.dropWhile p = [] ↔ l.all p = true := by
  induction l with
  | nil => simp
  | cons x l ih =>
    rw [List.dropWhile_cons]
    cases h : p x <;> simp [h, ih]
theorem all_takeWhile {α : Type} (p : α → Bool) (l : List α) : (l.takeWhile p).all p = true := by
  induction l with
  | nil => rfl
  | cons x l ih =>
    rw [List.takeWhile_cons]
    cases h : p x
    · simp
    · simp only [if_true, List.all_cons, h, Bool.true_and]; exact ih
theorem trim_nil (l cs : List UInt8) : Lib.trimS l cs = [] ↔ l.all (fun b => cs.contains b) = true := by
  unfold Lib.trimS Lib.trimRightS Lib.trimLeftS
  rw [dropWhile_nil, List.all_reverse]
  have h3 := List.takeWhile_append_dropWhile (p := fun b => cs.contains b) (l := l.reverse)
  have h4 := all_takeWhile (fun b => cs.contains b) l.reverse
  constructor
  · intro h
    have : (l.reverse).all (fun b => cs.contains b) = true := by rw [← h3, List.all_append, h4, h]; rfl
    rwa [List.all_reverse] at this
  · intro h
    have : (l.reverse).all (fun b => cs.contains b) = true := by rw [List.all_reverse]; exact h
    rw [← h3, List.all_append, h4, Bool.true_and] at this
    exact this
theorem trimN_any (s : ByteArray) (w : World) (hs : s.size ≤ maxLen) : Calls Tryd.prog 88 #[.string s, .string lettersB] w fun e w' => ∃ t : ByteArray, e = .returned (.string t) ∧ (t.data.toList = [] ↔ s.data.toList.all okByte = true) ∧ Below w.heap.size w w' := by
  refine (Any.strings_Trim_laid Tryd.lays160 (by kernel_rfl) s lettersB w (by unfold maxLen at hs; exact hs) (by decide) (ascii_of_all (by decide))).mono ?_
  rintro e w' ⟨rfl, hb⟩
  refine ⟨_, rfl, ?_, hb⟩
  show Lib.trimS s.data.toList lettersB.data.toList = [] ↔ _
  rw [trim_nil]
  have : okByte = fun b => lettersB.data.toList.contains b := by funext b; exact okByte_mem b
  rw [this]
theorem okName_nil {x : ByteArray} (h : x.data.toList = []) : okName x = false := by
  have : x.size = 0 := by rw [Lib.size_eq, h]; rfl
  unfold okName; rw [this]; rfl
theorem okName_long {x : ByteArray} (h : 24 < x.size) : okName x = false := by
  unfold okName; rw [decide_eq_false (show ¬ x.size ≤ 24 by omega)]; simp
theorem okName_byte {x : ByteArray} (h : x.data.toList.all okByte = false) : okName x = false := by unfold okName; rw [h]; simp
theorem okName_yes {x : ByteArray} (h1 : x.data.toList ≠ []) (h2 : ¬ 24 < x.size) (h3 : x.data.toList.all okByte = true) : okName x = true := by
  have : 0 < x.size := by
    rw [Lib.size_eq]
    cases h : x.data.toList with
    | nil => exact absurd h h1
    | cons a l => simp
  unfold okName; rw [h3, decide_eq_true this, decide_eq_true (show x.size ≤ 24 by omega)]; rfl
theorem okByte_iff (c : UInt8) : okByte c = true ↔ (97 ≤ c.toNat ∧ c.toNat ≤ 122) ∨ (65 ≤ c.toNat ∧ c.toNat ≤ 90) ∨ (48 ≤ c.toNat ∧ c.toNat ≤ 57) ∨ c.toNat = 45 := by
  unfold okByte
  simp only [Bool.or_eq_true, Bool.and_eq_true, decide_eq_true_iff]
  omega
theorem okName_bad {s : ByteArray} {k : Nat} (hk : k < s.data.toList.length) (h : ¬ okByte s.data.toList[k] = true) : okName s = false := by
  unfold okName
  have : s.data.toList.all okByte = false := by
    rw [List.all_eq_false]
    exact ⟨_, List.getElem_mem hk, h⟩
  rw [this, Bool.and_false]
theorem okName_good {s : ByteArray} (h : ∀ j (hl : j < s.data.toList.length), okByte s.data.toList[j] = true) : okName s = (decide (0 < s.size) && decide (s.size ≤ 24)) := by
  unfold okName
  have : s.data.toList.all okByte = true := by
    rw [List.all_eq_true]
    intro x hx
    obtain ⟨i, hi, rfl⟩ := List.getElem_of_mem hx
    exact h i hi
  rw [this, Bool.and_true]
set_option maxRecDepth 20000 in
set_option maxHeartbeats 4000000 in
theorem refName_any (s : ByteArray) (w : World) (hs : s.size ≤ maxLen) : Calls Tryd.prog 64 #[.string s] w fun e w' => e = .returned (.bool (okName s)) ∧ w = w' := by
  obtain ⟨res, hres⟩ : ∃ res, okName s = res := ⟨_, rfl⟩
  rw [hres]
  unfold maxLen at hs
  have HRES := Lib.hid hres
  clear hres
  go_enter Tryd.func64, Tryd.ntmps64
  go_wp2
  go_loopw [3] (fun i wr => ∃ k : Nat, k ≤ s.size ∧ i = .int .i64 k ∧ (∀ j (hj : j < k) (hl : j < s.data.toList.length), okByte s.data.toList[j] = true) ∧ w = wr) (fun i _ => s.size - (RowKit.intOf i).toNat)
  case atStart => exact ⟨0, by omega, rfl, fun j hj => absurd hj (Nat.not_lt_zero j), rfl⟩
  case round =>
    obtain ⟨k, hk, rfl, ht, rfl⟩ := hrel
    have HT := Lib.hid ht
    clear ht
    by_cases hlt : k < s.size
    · have hkI : (k : Int) < (s.size : Int) := by omega
      have hkl : k < s.data.toList.length := by rw [← Lib.size_eq]; exact hlt
      have hkb : s.data.toList[k] = s[k] := by rw [Array.getElem_toList]; rfl
      have hyes : okByte s[k] = true → ∀ j (hj : j < k + 1) (hl : j < s.data.toList.length), okByte s.data.toList[j] = true := fun h j hj hl => by
        rcases Nat.lt_or_ge j k with h' | h'
        · exact HT.out j h' hl
        · obtain rfl : j = k := by omega
          rw [hkb]; exact h
      have hno : ¬ okByte s[k] = true → false = res := fun h => by rw [← HRES.out, okName_bad hkl (by rw [hkb]; exact h)]
      have hiff := okByte_iff s[k]
      have HY := Lib.hid hyes; have HN := Lib.hid hno; have HI := Lib.hid hiff
      clear hyes hno hkb hiff
      by_cases h45 : s[k].toNat = 45
      · have h45I : (s[k].toNat : Int) = 45 := by omega
        have hok := HY.out (HI.out.2 (by omega))
        have HOK := Lib.hid hok
        clear hok h45 HY HN HI
        go_wp2
        all_goals
          go_roundw
          case rel => exact ⟨k + 1, by omega, by go_num, HOK.out, trivial⟩
          case measure => simp [RowKit.intOf]; omega
      · have h45I : ¬ (s[k].toNat : Int) = 45 := by omega
        go_wp2
        all_goals first
          | (go_ret
             have hz : ¬ okByte s[k] = true := fun h => by
               have h2 := HI.out.1 h
               omega
             have e0 := HN.out hz
             subst e0
             exact ⟨rfl, rfl⟩)
          | (have hz : okByte s[k] = true := HI.out.2 (by omega)
             have hy := HY.out hz
             go_roundw
             case rel => exact ⟨k + 1, by omega, by go_num, hy, trivial⟩
             case measure => simp [RowKit.intOf]; omega)
          | (exfalso
             rename_i hq
             simp only [Bool.not_eq_false', decide_eq_true_iff, beq_iff_eq] at hq
             omega)
    · obtain rfl : k = s.size := by omega
      have hr := okName_good (s := s) (fun j hl => HT.out j (by rw [Lib.size_eq]; exact hl) hl)
      rw [HRES.out] at hr
      by_cases h1 : 1 ≤ s.size
      · by_cases h2 : s.size ≤ 24
        · have h1I : (1 : Int) ≤ (s.size : Int) := by omega
          have h2I : (s.size : Int) ≤ 24 := by omega
          rw [decide_eq_true (show 0 < s.size by omega), decide_eq_true h2] at hr
          subst hr
          go_wp2
          go_ret
          exact ⟨rfl, rfl⟩
        · have h1I : (1 : Int) ≤ (s.size : Int) := by omega
          have h2I : ¬ (s.size : Int) ≤ 24 := by omega
          rw [decide_eq_true (show 0 < s.size by omega), decide_eq_false h2] at hr
          subst hr
          go_wp2
          go_ret
          exact ⟨rfl, rfl⟩
      · have h1I : ¬ (1 : Int) ≤ (s.size : Int) := by omega
        rw [decide_eq_false (show ¬ 0 < s.size by omega)] at hr
        subst hr
        go_wp2
        go_ret
        exact ⟨rfl, rfl⟩
set_option maxRecDepth 20000 in
set_option maxHeartbeats 1000000 in
theorem named_any (x : ByteArray) (w : World) (hsz : x.size ≤ maxLen) : Calls Tryd.prog 54 #[.string x] w fun e w' => e = .returned (.bool (okName x)) ∧ Below w.heap.size w w' := by
  by_cases hx0 : x.data.toList = []
  · have hxe : x.toList = [] := by rw [Lib.toList_data]; exact hx0
    have hxe2 : x.toList.isEmpty = true := by rw [hxe]; rfl
    have hxe3 : (x.toList == []) = true := by rw [hxe]; rfl
    rw [okName_nil hx0]
    clear hx0
    go_enter Tryd.func54, Tryd.ntmps54
    go_wp2
    go_ret
    exact ⟨rfl, Below.refl _ _⟩
  · have hxe : x.toList.isEmpty = false := by rw [Lib.toList_data, List.isEmpty_eq_false_iff]; exact hx0
    have hxe2 : (x.toList == []) = false := by rw [Lib.toList_data, beq_eq_false_iff_ne]; exact hx0
    have hxe3 : ¬ x.toList = [] := by rw [Lib.toList_data]; exact hx0
    have HX := Lib.hid hx0
    clear hx0
    by_cases hx2 : 24 < x.size
    · have hx2I : ¬ (x.size : Int) ≤ 24 := by omega
      have hx2d : decide ((x.size : Int) ≤ 24) = false := decide_eq_false hx2I
      rw [okName_long hx2]
      clear hx2
      go_enter Tryd.func54, Tryd.ntmps54
      go_wp2
      go_ret
      exact ⟨rfl, Below.refl _ _⟩
    · have hx2I : (x.size : Int) ≤ 24 := by omega
      have hcall := trimN_any x w hsz
      have HX2 := Lib.hid hx2
      clear hx2
      cases hall : x.data.toList.all okByte
      · rw [okName_byte hall]
        have HALL := Lib.hid hall
        clear hall
        go_enter Tryd.func54, Tryd.ntmps54
        go_wp2_with fail
        refine hcall.mono ?_
        rintro e w1 ⟨t, rfl, ht, hb1⟩
        have hte : ¬ t.toList = [] := by
          rw [Lib.toList_data]; intro h
          have := ht.1 h
          rw [HALL.out] at this; cases this
        have hte2 : t.toList.isEmpty = false := by rw [List.isEmpty_eq_false_iff]; exact hte
        have hte3 : (t.toList == []) = false := by rw [beq_eq_false_iff_ne]; exact hte
        have HB1 := Lib.hid hb1
        clear ht hb1 hcall
        go_wp2
        go_ret
        exact ⟨rfl, HB1.out⟩
      · rw [okName_yes HX.out HX2.out hall]
        have HALL := Lib.hid hall
        clear hall
        go_enter Tryd.func54, Tryd.ntmps54
        go_wp2_with fail
        refine hcall.mono ?_
        rintro e w1 ⟨t, rfl, ht, hb1⟩
        have hte : t.toList = [] := by rw [Lib.toList_data]; exact ht.2 HALL.out
        have hte2 : t.toList.isEmpty = true := by rw [hte]; rfl
        have hte3 : (t.toList == []) = true := by rw [hte]; rfl
        have HB1 := Lib.hid hb1
        clear ht hb1 hcall
        go_wp2
        go_ret
        exact ⟨rfl, HB1.out⟩
end Go.Proofs.YtipfhamhiaeieaaDoor
