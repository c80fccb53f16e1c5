/-
 layer 43: Valid of the reference's layer 1, Check of its layer 2. Conditions: numbers of 32 bits; a list that can be read.
-/
import Derived.Test.YtmepaeahchiglaaGreatDoorZdab
import Derived.Deep.RegionLaw
set_option maxRecDepth 20000
set_option maxHeartbeats 4000000
namespace Go.Proofs.YtmepaeahchiglaaGreatDoor
open Go.RowKit Go.Lib
theorem tH (n f : Nat) (hn : n < 4294967296) : bits .and .u32 ((n : Int) / 2 ^ f) 1 = if n.testBit f then 1 else 0 := by
 have e : (n : Int) / 2 ^ f = ((n / 2 ^ f : Nat) : Int) := by simp
 rw [e]
 have h := u32_and_nat (n / 2 ^ f) 1 (Nat.lt_of_le_of_lt (Nat.div_le_self _ _) hn) (by decide)
 rw [Nat.and_one_is_mod] at h
 rw [show ((1 : Nat) : Int) = 1 from rfl] at h
 rw [h, Nat.testBit_eq_decide_div_mod_eq]
 by_cases h1 : n / 2 ^ f % 2 = 1
 ·rw [h1]; simp
 ·rw [show n / 2 ^ f % 2 = 0 by omega]; simp
theorem gy (s : Snd) (w : World) (hs : ok32 s) : Calls Tryz.prog 197 #[jy s] w fun e w' => e = .returned (.bool (ax s)) ∧ Below w.heap.size w w' := by
 rw [Ab hs]
 obtain ⟨r, hr⟩ : ∃ r, (List.range 32).all (lV s) = r := ⟨_, rfl⟩
 rw [hr]
 have HR := qh hr
 have HS := qh hs
 clear hr hs
 obtain ⟨a, b⟩ := s
 go_enter Tryz.func197, Tryz.ntmps197
 go_wp2
 go_loop [3] (fun i => ∃ k : Nat, k ≤ 32 ∧ i = .int .i64 k ∧ (List.range k).all (lV (a, b)) = true) (fun i => 32 - (RowKit.intOf i).toNat)
 case atStart => exact ⟨0, by omega, rfl, rfl⟩
 case round =>
  obtain ⟨k, hk, rfl, aI⟩ := hrel
  have bf := qh aI
  clear aI
  by_cases hlt : k < 32
  ·have cB : (k : Int) < 32 := by omega
   have aF : (List.range (k + 1)).all (lV (a, b)) = lV (a, b) k := by rw [List.range_succ, List.all_append, bf.out]; simp
   have Ff : lV (a, b) k = (!(a.testBit k && b.testBit k) && !((a.testBit k || b.testBit k) && decide (24 ≤ k))) := rfl
   have ay : lV (a, b) k = false → r = false := fun h => by
    rw [← HR.out, List.all_eq_false]
    exact ⟨k, List.mem_range.2 hlt, by rw [h]; decide⟩
   have ha := tH a k HS.out.1
   have hb := tH b k HS.out.2
   have bL := qh aF; have aD := qh ay
   clear aF ay
   by_cases h24 : 24 ≤ k
   ·have vL : (24 : Int) ≤ k := by omega
    rw [decide_eq_true h24] at Ff
    cases Fe : a.testBit k <;> cases htb : b.testBit k <;> rw [Fe, htb] at Ff <;> rw [Fe] at ha <;> rw [htb] at hb <;> simp only [if_true, if_false, Bool.false_eq_true] at ha hb <;> (have Vj := qh Ff) <;> clear Ff Fe htb
    ·go_wp2
     go_round
     case rel => exact ⟨k + 1, by omega, by go_num, by rw [bL.out, Vj.out]; rfl⟩
     case measure => simp [RowKit.intOf]; omega
    all_goals
     go_wp2
     go_ret
     exact ⟨by rw [aD.out Vj.out]; rfl, (Below.refl _ _).alloc (Nat.le_refl _) _⟩
   ·have vL : ¬ (24 : Int) ≤ k := by omega
    rw [decide_eq_false h24] at Ff
    cases Fe : a.testBit k <;> cases htb : b.testBit k <;> rw [Fe, htb] at Ff <;> rw [Fe] at ha <;> rw [htb] at hb <;> simp only [if_true, if_false, Bool.false_eq_true] at ha hb <;> (have Vj := qh Ff) <;> clear Ff Fe htb
    case true.true =>
     go_wp2
     go_ret
     exact ⟨by rw [aD.out Vj.out]; rfl, (Below.refl _ _).alloc (Nat.le_refl _) _⟩
    all_goals
     go_wp2
     go_round
     case rel => exact ⟨k + 1, by omega, by go_num, by rw [bL.out, Vj.out]; rfl⟩
     case measure => simp [RowKit.intOf]; omega
  ·obtain rfl : k = 32 := by omega
   have hr := HR.out
   rw [bf.out] at hr
   subst hr
   go_wp2
   go_ret
   exact ⟨rfl, (Below.refl _ _).alloc (Nat.le_refl _) _⟩
theorem AZ (A : Option Addr) (n c B : Nat) (ws : List Snd) (w : World) (hr : Reads w B 2 A n (ws.flatMap gL)) (hB : B ≤ w.heap.size) (hn : n ≤ maxLen) (hok : ∀ s ∈ ws, ok32 s) :
 Calls Tryz.prog 204 #[.slice A n c] w fun e w' => e = .returned (.int .i64 (bF ws)) ∧ Below w.heap.size w w' := by
 unfold maxLen at hn
 have hwl := hr.iD (fun _ => rfl) (by decide)
 obtain ⟨r, aU⟩ : ∃ r, bF ws = r := ⟨_, rfl⟩
 rw [aU]
 unfold bF at aU
 rw [hwl] at aU
 have dA := qh aU; have HR := qh hr; have wG := qh hwl; have gW := qh hok
 clear hr hwl hok aU
 by_cases h32 : 32 < n
 ·have OX : (32 : Int) < n := by omega
  go_enter Tryz.func204, Tryz.ntmps204
  go_wp2
  go_ret
  exact ⟨by rw [← dA.out, if_pos h32]; rfl, Below.refl _ _⟩
 ·have OX : ¬ (32 : Int) < n := by omega
  go_enter Tryz.func204, Tryz.ntmps204
  go_wp2
  go_loopw [3] (fun i wr => ∃ k : Nat, k ≤ n ∧ i = .int .i64 k ∧ (ws.take k).all ax = true ∧ Below w.heap.size w wr) (fun i _ => n - (RowKit.intOf i).toNat)
  case atStart => exact ⟨0, by omega, rfl, by simp, Below.refl _ _⟩
  case round =>
   obtain ⟨k, hk, rfl, aI, hb⟩ := hrel
   have bf := qh aI; have HB := qh hb
   clear aI hb
   by_cases hlt : k < n
   ·have bB : k < ws.length := by rw [wG.out]; exact hlt
    have cB : (k : Int) < (n : Int) := by omega
    obtain ⟨ad, rfl, had, hc0, hc1⟩ := fA (HR.out.below (HB.out.mono hB)) bB
    have aF : (ws.take (k + 1)).all ax = ((ws.take k).all ax && ax ws[k]) := by rw [List.take_succ_eq_append_getElem bB, List.all_append]; simp
    have bL := qh aF
    have hmem := List.getElem_mem bB
    clear aF
    cases hv : ax ws[k]
    ·have hmem' : ¬ (ws.all ax = true) := fun h => by rw [List.all_eq_true.1 h _ hmem] at hv; cases hv
     have HM := qh hmem'; have HV := qh hv
     have sN := gW.out _ hmem
     clear hmem' hv hmem
     generalize ws[k] = s at *
     go_wp2_with fail
     refine (mJ s _ sN).mono ?_
     rw [HV.out]
     rintro e w2 ⟨rfl, hb2⟩
     have HB2 := qh hb2
     clear hb2
     go_wp2
     go_ret
     exact ⟨by rw [← dA.out, if_neg h32, if_neg HM.out]; rfl, HB.out.trans (HB2.out.mono HB.out.size)⟩
    ·have HV := qh hv
     have sN := gW.out _ hmem
     clear hv hmem
     generalize ws[k] = s at *
     go_wp2_with fail
     refine (mJ s _ sN).mono ?_
     rw [HV.out]
     rintro e w2 ⟨rfl, hb2⟩
     have HB2 := qh hb2
     clear hb2
     go_wp2
     go_roundw
     case rel => exact ⟨k + 1, by omega, by go_num, by rw [bL.out, bf.out, HV.out]; rfl, HB.out.trans (HB2.out.mono HB.out.size)⟩
     case measure => simp [RowKit.intOf]; omega
   ·obtain rfl : k = n := by omega
    go_wp2
    go_ret
    have := bf.out
    rw [List.take_of_length_le (by rw [wG.out]; exact Nat.le_refl _)] at this
    exact ⟨by rw [← dA.out, if_neg h32, if_pos this]; rfl, HB.out⟩
def Lm (w : World) (bs : List Nat) (e : Ending) (w' : World) : Prop := ∃ v, e = .returned v ∧ w'.ownsRow w.heap.size 5 1 v bs.length (bs.map bv) ∧ Below w.heap.size w w'
theorem Kr (l : List Nat) : ∀ u ∈ l.map bv, u.oneCell' = true := by
 intro u hu
 obtain ⟨b, _, rfl⟩ := List.mem_map.1 hu
 rfl
theorem own_below' {w w' : World} {base : Nat} {e : TypeId} {size n : Nat} {v : Value} {xs : List Value} (h : w.ownsRow base e size v n xs) (hb : Below w.heap.size w w') : w'.ownsRow base e size v n xs :=
 h.kept (row := none) ⟨hb.os, hb.tape, hb.output, hb.size, fun k hk _ => hb.block k hk⟩ (by
  cases h' : v.ownBlock with
  | none => exact .inl rfl
  | some k => exact .inr (by simp))
theorem dh {w : World} {base base' : Nat} {e : TypeId} {size n : Nat} {v : Value} {xs : List Value} (h : w.ownsRow base e size v n xs) (hb : base' ≤ base) : w.ownsRow base' e size v n xs := by
 obtain ⟨h1, h2 | ⟨g, cap, cur, h3, h4, h5⟩⟩ := h
 ·exact ⟨h1, .inl h2⟩
 ·exact ⟨h1, .inr ⟨g, cap, cur, h3, Nat.le_trans hb h4, h5⟩⟩
def L9 (ws : List Snd) : List Nat := if bF ws = 0 then wordB ws else []
def tL (w : World) (bs : List Nat) (x : Int) (e : Ending) (w' : World) : Prop := ∃ v, e = .returned (.tuple #[v, .int .i64 x]) ∧ w'.ownsRow w.heap.size 5 1 v bs.length (bs.map bv) ∧ Below w.heap.size w w'
theorem FP {ws : List Snd} (h : bF ws = 0) : ws.length ≤ 32 := by
 unfold bF at h
 split at h
 ·cases h
 ·omega
theorem pK {w : World} {base : Nat} (h : w.heap.size = base) : Wr (w.alloc (.cells #[.slice none 0 0] 92)) base base [] :=
 ⟨_, by rw [← h]; exact Blk.new w _ _, Nat.le_refl _, World.ownsRow_nil _ _ _ _⟩
theorem FQ (ws : List Snd) : (wordB ws).length ≤ 5 + 10 * ws.length := by
 show (numB ws.length ++ ws.flatMap sndB).length ≤ _
 rw [List.length_append]
 have := bG ws.length
 have := nM mG ws
 omega
theorem Bf (A : Option Addr) (n c B : Nat) (ws : List Snd) (w : World) (hr : Reads w B 2 A n (ws.flatMap gL)) (hB : B ≤ w.heap.size) (hn : n ≤ maxLen) (hok : ∀ s ∈ ws, ok32 s) :
 Calls Tryz.prog 25 #[.slice A n c] w (tL w (L9 ws) (bF ws)) := by
 have hwl := hr.iD (fun _ => rfl) (by decide)
 have hc := iI A n c B ws w hr hB hn hok
 unfold tL
 by_cases h0 : bF ws = 0
 ·have hp : L9 ws = wordB ws := if_pos h0
  have h32 := FP h0
  rw [hp, h0]
  rw [h0] at hc
  have hb := fun W (hW : Below w.heap.size w W) => vX (W.alloc (.cells #[.slice none 0 0] 92)) W.heap.size W.heap.size B A n c ws [] (pK rfl) ((hr.below (hW.mono hB)).alloc (by have := hW.size; omega) _) (by have := hW.size; omega) (by omega) hok (by unfold CAP; simp; omega)
  rw [List.nil_append] at hb
  have HB := qh hb
  clear hr hok hb hp h0 hwl
  generalize wordB ws = bs at *
  go_enter Tryz.func25, Tryz.ntmps25
  go_wp2_with fail
  refine hc.mono ?_
  rintro e w1 ⟨rfl, hb1⟩
  have HB1 := qh hb1
  clear hb1
  go_wp2_with fail
  refine (HB.out _ HB1.out).mono ?_
  rintro e w2 ⟨rfl, h1, h2⟩
  have hw0 := pK (w := w1) rfl
  have hbl := h2.below hw0
  obtain ⟨v, b1, b2, b3⟩ := h1
  have hc0 := b1.cell 0
  simp only [gq2] at hc0
  have hB2 : Below w.heap.size w w2 := (HB1.out.alloc HB1.out.size _).trans (hbl.mono HB1.out.size)
  have HB2 := qh hB2; have HO := qh b3
  clear hbl hw0 h2 b1 b2 b3 hB2
  go_wp2
  go_ret2
  exact ⟨_, rfl, dh HO.out HB1.out.size, HB2.out⟩
 ·have hp : L9 ws = [] := if_neg h0
  rw [hp]
  have hne : (bF ws != 0) = true := by simpa using h0
  generalize bF ws = x at *
  clear hr hok hp h0
  go_enter Tryz.func25, Tryz.ntmps25
  go_wp2_with fail
  refine hc.mono ?_
  rintro e w1 ⟨rfl, hb1⟩
  have HB1 := qh hb1
  clear hb1
  go_wp2
  go_ret2
  exact ⟨_, rfl, World.ownsRow_nil _ _ _ _, HB1.out⟩
abbrev aZ (k : Int) (s : Snd) (neg : Bool) (lo hi : Int) (v : Value) : List Value := [.int .i64 k, .int .u32 s.1, .int .u32 s.2, .bool neg, .int .i64 lo, .int .i64 hi, v]
mutual
def PatC (w : World) (B : Nat) : Pt → List Value → Prop
 | .mk k s neg lo hi l, cs => ∃ A c xs, cs = aZ k s neg lo hi (.slice A l.length c) ∧ ok32 s ∧ l.length ≤ c ∧ c ≤ maxLen ∧ Reads w B 7 A l.length xs ∧ PatsC w B l xs
def PatsC (w : World) (B : Nat) : List Pt → List Value → Prop
 | [], xs => xs = []
 | p :: l, xs => ∃ c1 c2, xs = c1 ++ c2 ∧ PatC w B p c1 ∧ PatsC w B l c2
end
theorem gN {w : World} {B : Nat} {k : Int} {s : Snd} {neg : Bool} {lo hi : Int} {l : List Pt} {cs : List Value} :
 PatC w B (.mk k s neg lo hi l) cs ↔ ∃ A c xs, cs = aZ k s neg lo hi (.slice A l.length c) ∧ ok32 s ∧ l.length ≤ c ∧ c ≤ maxLen ∧ Reads w B 7 A l.length xs ∧ PatsC w B l xs := by rw [PatC]
theorem dZ {w : World} {B : Nat} {xs : List Value} : PatsC w B [] xs ↔ xs = [] := by rw [PatsC]
theorem df {w : World} {B : Nat} {p : Pt} {l : List Pt} {xs : List Value} : PatsC w B (p :: l) xs ↔ ∃ c1 c2, xs = c1 ++ c2 ∧ PatC w B p c1 ∧ PatsC w B l c2 := by rw [PatsC]
theorem PatC.len {w : World} {B : Nat} {p : Pt} {cs : List Value} (h : PatC w B p cs) : cs.length = 7 := by
 obtain ⟨k, s, neg, lo, hi, l⟩ := p
 rw [gN] at h
 obtain ⟨A, c, xs, rfl, _⟩ := h; rfl
mutual
theorem PatC.keep {w w' : World} {B : Nat} (hk : ∀ p : Addr, p.block < B → w'.cell? p = w.cell? p) : ∀ (p : Pt) (cs : List Value), PatC w B p cs → PatC w' B p cs
 | .mk k s neg lo hi l, cs, h => by
   rw [gN] at h ⊢
   obtain ⟨A, c, xs, h1, h2, h3, h4, h5, h6⟩ := h
   exact ⟨A, c, xs, h1, h2, h3, h4, h5.keep hk, PatsC.keep hk l xs h6⟩
theorem PatsC.keep {w w' : World} {B : Nat} (hk : ∀ p : Addr, p.block < B → w'.cell? p = w.cell? p) : ∀ (l : List Pt) (xs : List Value), PatsC w B l xs → PatsC w' B l xs
 | [], xs, h => by rw [dZ] at h ⊢; exact h
 | p :: l, xs, h => by
   rw [df] at h ⊢
   obtain ⟨c1, c2, e, h1, h2⟩ := h
   exact ⟨c1, c2, e, PatC.keep hk p c1 h1, PatsC.keep hk l c2 h2⟩
end
mutual
theorem PatC.more {w : World} {B B' : Nat} (hB : B ≤ B') : ∀ (p : Pt) (cs : List Value), PatC w B p cs → PatC w B' p cs
 | .mk k s neg lo hi l, cs, h => by
   rw [gN] at h ⊢
   obtain ⟨A, c, xs, h1, h2, h3, h4, h5, h6⟩ := h
   exact ⟨A, c, xs, h1, h2, h3, h4, h5.more hB, PatsC.more hB l xs h6⟩
theorem PatsC.more {w : World} {B B' : Nat} (hB : B ≤ B') : ∀ (l : List Pt) (xs : List Value), PatsC w B l xs → PatsC w B' l xs
 | [], xs, h => by rw [dZ] at h ⊢; exact h
 | p :: l, xs, h => by
   rw [df] at h ⊢
   obtain ⟨c1, c2, e, h1, h2⟩ := h
   exact ⟨c1, c2, e, PatC.more hB p c1 h1, PatsC.more hB l c2 h2⟩
end
theorem PatC.below {w w' : World} {B : Nat} {p : Pt} {cs : List Value} (h : PatC w B p cs) (hb : Below B w w') : PatC w' B p cs := h.keep (fun _ hp => hb.cell hp) p cs
theorem PatsC.below {w w' : World} {B : Nat} {l : List Pt} {xs : List Value} (h : PatsC w B l xs) (hb : Below B w w') : PatsC w' B l xs := h.keep (fun _ hp => hb.cell hp) l xs
theorem PatsC.at_ {w : World} {B : Nat} : ∀ (l : List Pt) (xs : List Value), PatsC w B l xs → ∀ (i : Nat) (hi : i < l.length), ∃ cs, PatC w B l[i] cs ∧ ∀ j u, cs[j]? = some u → xs[i * 7 + j]? = some u
 | [], _, _, i, hi => absurd hi (Nat.not_lt_zero i)
 | p :: l, xs, h, i, hi => by
   rw [df] at h
   obtain ⟨c1, c2, rfl, h1, h2⟩ := h
   have hl := h1.len
   cases i with
   | zero =>
     refine ⟨c1, h1, fun j u hu => ?_⟩
     rw [Nat.zero_mul, Nat.zero_add, List.getElem?_append_left (List.getElem?_eq_some_iff.1 hu).1]
     exact hu
   | succ i =>
     obtain ⟨cs, k1, k2⟩ := PatsC.at_ l c2 h2 i (by simpa using hi)
     refine ⟨cs, k1, fun j u hu => ?_⟩
     rw [List.getElem?_append_right (by omega), show (i + 1) * 7 + j - c1.length = i * 7 + j by omega]
     exact k2 j u hu
theorem PatC.form {w : World} {B : Nat} {p : Pt} {cs : List Value} (h : PatC w B p cs) : ∃ k s neg lo hi A n c, cs = aZ k s neg lo hi (.slice A n c) := by
 obtain ⟨k, s, neg, lo, hi, l⟩ := p
 rw [gN] at h
 obtain ⟨A, c, xs, rfl, _⟩ := h
 exact ⟨k, s, neg, lo, hi, _, _, _, rfl⟩
theorem kM {w : World} {B n : Nat} {A : Option Addr} {l : List Pt} {xs : List Value} (h : Reads w B 7 A n xs) (hp : PatsC w B l xs) (hn : l.length = n) {i : Nat} (hi : i < l.length) :
 ∃ ad k s neg lo hi' A' n' c', A = some ad ∧ ad.block < B ∧ PatC w B l[i] (aZ k s neg lo hi' (.slice A' n' c')) ∧ w.cell? (ad.add (i * 7)) = some (.int .i64 k) ∧ w.cell? ⟨(ad.add (i * 7)).block, (ad.add (i * 7)).off + 1, none⟩ = some (.int .u32 s.1) ∧
  w.cell? ⟨(ad.add (i * 7)).block, (ad.add (i * 7)).off + 2, none⟩ = some (.int .u32 s.2) ∧ w.cell? ⟨(ad.add (i * 7)).block, (ad.add (i * 7)).off + 3, none⟩ = some (.bool neg) ∧
  w.cell? ⟨(ad.add (i * 7)).block, (ad.add (i * 7)).off + 4, none⟩ = some (.int .i64 lo) ∧ w.cell? ⟨(ad.add (i * 7)).block, (ad.add (i * 7)).off + 5, none⟩ = some (.int .i64 hi') ∧ w.cell? ⟨(ad.add (i * 7)).block, (ad.add (i * 7)).off + 6, none⟩ = some (.slice A' n' c') := by
 obtain ⟨ad, e, hb, hc⟩ := h.2 (by omega)
 obtain ⟨cs, h1, h2⟩ := hp.at_ l xs i hi
 obtain ⟨k, s, neg, lo, hi', A', n', c', rfl⟩ := h1.form
 refine ⟨ad, k, s, neg, lo, hi', A', n', c', e, hb, h1, hc _ _ (h2 0 _ rfl), ?_, ?_, ?_, ?_, ?_, ?_⟩
 ·rw [← aH ad (i * 7) 0]; exact hc _ _ (h2 1 _ rfl)
 ·rw [← aH ad (i * 7) 1]; exact hc _ _ (h2 2 _ rfl)
 ·rw [← aH ad (i * 7) 2]; exact hc _ _ (h2 3 _ rfl)
 ·rw [← aH ad (i * 7) 3]; exact hc _ _ (h2 4 _ rfl)
 ·rw [← aH ad (i * 7) 4]; exact hc _ _ (h2 5 _ rfl)
 ·rw [← aH ad (i * 7) 5]; exact hc _ _ (h2 6 _ rfl)
abbrev pF (k : Int) (s : Snd) (neg : Bool) (lo hi : Int) (v : Value) : Value := .agg #[.int .i64 k, .int .u32 s.1, .int .u32 s.2, .bool neg, .int .i64 lo, .int .i64 hi, v]
def nO (m : Nat) : Prop := ∀ (p : Pt) (k : Int) (s : Snd) (neg : Bool) (lo hi : Int) (A : Option Addr) (n c : Nat) (w : World) (base g B : Nat) (xs : List Nat), ptSize p ≤ m → ptSize p ≤ 1000 → sG p = true → PatC w B p (aZ k s neg lo hi (.slice A n c)) → B ≤ base → Wr w base g xs → xs.length + 20 * ptSize p ≤ CAP →
 Calls Tryz.prog 139 #[af g, pF k s neg lo hi (.slice A n c)] w fun e w' => e = .returned (.tuple #[]) ∧ Wr w' base g (xs ++ lv p) ∧ WStep g w w'
theorem EA (m : Nat) (hm : nO m) (w : World) (base g B : Nat) (A : Option Addr) (n c : Nat) (l : List Pt) (ys : List Value) (xs : List Nat) (h : Wr w base g xs) (hr : Reads w B 7 A n ys) (hp : PatsC w B l ys) (hl : l.length = n) (hB : B ≤ base)
 (hsz : ptSizes l ≤ m) (h40 : ptSizes l ≤ 1000) (hok : fK l = true) (hx : xs.length + 5 + 20 * ptSizes l ≤ CAP) :
 Calls Tryz.prog 183 #[af g, .slice A n c, .func (.func 139) #[af g] #[]] w fun e w' => e = .returned (.tuple #[]) ∧ Wr w' base g (xs ++ (numB l.length ++ gD l)) ∧ WStep g w w' := by
 have hll := jV l
 have hn : n < 4294967296 := by omega
 have hc1 := iG w base g n xs h hn (by omega)
 have hl5 := bG n
 have HH := qh h; have HR := qh hr; have HP := qh hp; have HL := qh hl; have gW := qh hok; have HM := qh hm
 clear h hr hp hl hok hm
 go_enter Tryz.func183, Tryz.ntmps183
 go_wp2_with fail
 refine hc1.mono ?_
 rintro e w1 ⟨rfl, h1, h2⟩
 have HW := qh h1; have bL := qh h2
 clear h1 h2 hc1
 go_wp2
 go_loopw [14] (fun i wr => ∃ k : Nat, k ≤ n ∧ i = .int .i64 k ∧ Wr wr base g (xs ++ numB n ++ gD (l.take k)) ∧ WStep g w wr) (fun i _ => n - (RowKit.intOf i).toNat)
 case atStart => exact ⟨0, by omega, rfl, by rw [List.take_zero, nE, List.append_nil]; exact HW.out, bL.out⟩
 case round =>
  obtain ⟨k, hk, rfl, hwr, aF⟩ := hrel
  have zK := qh hwr; have dz := qh aF
  clear hwr aF
  by_cases hlt : k < n
  ·have bB : k < l.length := by rw [HL.out]; exact hlt
   have cB : (k : Int) < (n : Int) := by omega
   obtain ⟨ad, k', s, neg, lo, hi, A', n', c', rfl, had, hpc, hc0, hc1, hc2, hc3, hc4, hc5, hc6⟩ := kM (dz.out.reads HH.out HR.out hB) (HP.out.below ((dz.out.below HH.out).mono hB)) HL.out bB
   have hlen : (xs ++ numB n ++ gD (l.take k)).length + 20 * ptSize l[k] ≤ CAP := by
    have := qU (l.take k)
    have hsum := eY (l.take k) (l.drop k)
    rw [List.take_append_drop, List.drop_eq_getElem_cons bB, aR] at hsum
    rw [List.length_append, List.length_append]
    omega
   have ae := HM.out l[k] k' s neg lo hi A' n' c' (wr.alloc (.cells #[.int .i64 k', .int .u32 s.1, .int .u32 s.2, .bool neg, .int .i64 lo, .int .i64 hi, .slice A' n' c'] 58)) base g B _ (Nat.le_trans (oG (List.getElem_mem bB)) hsz) (Nat.le_trans (oG (List.getElem_mem bB)) h40) (qP (List.getElem_mem bB) gW.out) (hpc.keep (fun p hp' => World.cell?_alloc_lt wr _ p (by have := zK.out.lt; have := zK.out.base_le; omega)) _ _) hB (zK.out.alloc _) hlen
   have hts : gD (l.take (k + 1)) = gD (l.take k) ++ lv l[k] := by rw [uP, uP, qD lv l k bB]
   have XN := qh hts; have aj := qh ae
   clear hts ae hpc hlen
   generalize lv l[k] = pb at *
   go_wp2_with fail
   refine aj.out.mono ?_
   rintro e w2 ⟨rfl, h3, h4⟩
   have H3 := qh h3; have H4 := qh h4
   clear h3 h4
   go_wp2
   go_roundw
   case rel => exact ⟨k + 1, by omega, by go_num, by rw [XN.out, ← List.append_assoc]; exact H3.out, (dz.out.alloc zK.out.lt _).trans H4.out⟩
   case measure => simp [RowKit.intOf]; omega
  ·obtain rfl : k = n := by omega
   go_wp2
   go_end0
   refine ⟨rfl, ?_, dz.out⟩
   have := zK.out
   rw [List.take_of_length_le (by rw [HL.out]; exact Nat.le_refl _), List.append_assoc] at this
   rw [HL.out]; exact this
theorem jq (w : World) (base g : Nat) (k : Int) (xs : List Nat) (h : Wr w base g xs) (h0 : 0 ≤ k) (hk : k < 4294967296) (hx : xs.length + 5 ≤ CAP) :
 Calls Tryz.prog 93 #[af g, .int .i64 k] w fun e w' => e = .returned (.tuple #[]) ∧ Wr w' base g (xs ++ numB k.toNat) ∧ WStep g w w' := by
 have := iG w base g k.toNat xs h (by omega) hx
 rwa [show ((k.toNat : Nat) : Int) = k by omega] at this
theorem Blk.seven {w : World} {g : Nat} {t : TypeId} {a0 a1 a2 a3 a4 a5 a6 : Value} (h : Blk w g t #[a0, a1, a2, a3, a4, a5, a6]) :
 w.cell? ⟨g, 0, none⟩ = some a0 ∧ w.cell? ⟨g, 1, none⟩ = some a1 ∧ w.cell? ⟨g, 2, none⟩ = some a2 ∧ w.cell? ⟨g, 3, none⟩ = some a3 ∧ w.cell? ⟨g, 4, none⟩ = some a4 ∧ w.cell? ⟨g, 5, none⟩ = some a5 ∧ w.cell? ⟨g, 6, none⟩ = some a6 :=
 ⟨h.cell 0, h.cell 1, h.cell 2, h.cell 3, h.cell 4, h.cell 5, h.cell 6⟩
theorem Dp (s : Snd) (neg : Bool) (lo hi : Int) (l : List Pt) : lv (.mk 1 s neg lo hi l) = numB 1 ++ (sndB s ++ NN neg) := by
 rw [pJ, if_pos rfl]; rfl
theorem Gy {k : Int} (h : k = 3 ∨ k = 4) (s : Snd) (neg : Bool) (lo hi : Int) (l : List Pt) : lv (.mk k s neg lo hi l) = numB k.toNat ++ (numB l.length ++ gD l) := by
 rw [pJ, if_neg (by omega), if_pos h]
theorem Jc (s : Snd) (neg : Bool) (lo hi : Int) (l : List Pt) : lv (.mk 5 s neg lo hi l) = numB 5 ++ (numB lo.toNat ++ (numB (hi + 1).toNat ++ gD l)) := by
 rw [pJ, if_neg (by decide), if_neg (by decide), if_pos rfl]; rfl
theorem Dq {k : Int} (h : k = 0 ∨ k = 2 ∨ k = 6) (s : Snd) (neg : Bool) (lo hi : Int) (l : List Pt) : lv (.mk k s neg lo hi l) = numB k.toNat := by
 rw [pJ, if_neg (by omega), if_neg (by omega), if_neg (by omega), List.append_nil]
theorem zg (m : Nat) (hm : nO m) : nO (m + 1) := by
 rintro ⟨k, s, neg, lo, hi, l⟩ k' s' kQ lo' hi' A n c w base g B xs hsz h1000 hok hp hB hw hx
 rw [gN] at hp
 obtain ⟨A', c', ys, he, h32, hc, hcm, hr, hps⟩ := hp
 simp only [aZ, List.cons.injEq, Value.int.injEq, Value.bool.injEq, Value.slice.injEq, true_and, and_true] at he
 obtain ⟨rfl, h1, h2, rfl, rfl, rfl, rfl, rfl, rfl⟩ := he
 obtain ⟨a, b⟩ := s
 obtain ⟨a', b'⟩ := s'
 obtain rfl : a' = a := Int.natCast_inj.1 h1
 obtain rfl : b' = b := Int.natCast_inj.1 h2
 clear h1 h2
 rw [sZ, Bool.and_eq_true] at hok
 obtain ⟨hn, hks⟩ := hok
 rw [dK] at hsz h1000 hx
 have hw0 := hw.alloc (.cells #[.int .i64 k', .int .u32 a', .int .u32 b', .bool kQ, .int .i64 lo', .int .i64 hi', .slice A l.length c] 58)
 have hB0 := Blk.new w 58 #[.int .i64 k', .int .u32 a', .int .u32 b', .bool kQ, .int .i64 lo', .int .i64 hi', .slice A l.length c]
 have aF := (WStep.refl g w).alloc hw.lt (.cells #[.int .i64 k', .int .u32 a', .int .u32 b', .bool kQ, .int .i64 lo', .int .i64 hi', .slice A l.length c] 58)
 have hgl := hw.lt
 have hbg := hw.base_le
 have hr0 := hr.alloc (by omega) (.cells #[.int .i64 k', .int .u32 a', .int .u32 b', .bool kQ, .int .i64 lo', .int .i64 hi', .slice A l.length c] 58)
 have hps0 : PatsC (w.alloc (.cells #[.int .i64 k', .int .u32 a', .int .u32 b', .bool kQ, .int .i64 lo', .int .i64 hi', .slice A l.length c] 58)) B l ys := hps.keep (fun p hp' => World.cell?_alloc_lt w _ p (by omega)) _ _
 have hcases := zi hn
 have hk0 : 0 ≤ k' ∧ k' < 4294967296 := by omega
 have hc1 := jq _ base g k' xs hw0 hk0.1 hk0.2 (by omega)
 have hl1 := bG k'.toNat
 have HW0 := qh hw0; have HB0 := qh hB0; have bL := qh aF; have HR := qh hr0; have MW := qh hps0; have Zy := qh hks; have HM := qh hm
 clear hw0 hB0 aF hr0 hps0 hks hm hn hw hr hps
 rcases hcases with ⟨rfl, rfl, rfl, -⟩ | ⟨hk, -⟩ | hk | ⟨rfl, h1, hlo, hlo2, hhi, hhi2⟩
 ·rw [Dp]
  go_enter Tryz.func139, Tryz.ntmps139
  go_wp2_with fail
  refine hc1.mono ?_
  rintro e w1 ⟨rfl, h1, h2⟩
  obtain ⟨c0, c1, c2, c3, c4, c5, c6⟩ := (h2.blk HW0.out HB0.out (by decide) (by omega)).seven
  have H1 := qh h1; have H2 := qh h2
  have hcs := qK w1 base g (a', b') _ h1 h32 (by rw [List.length_append]; omega)
  clear h1 h2 hc1
  go_wp2_with fail
  refine hcs.mono ?_
  rintro e w2 ⟨rfl, h3, h4⟩
  obtain ⟨c0, c1, c2, c3, c4, c5, c6⟩ := (h4.blk H1.out (H2.out.blk HW0.out HB0.out (by decide) (by omega)) (by decide) (by omega)).seven
  have hls := mG (a', b')
  have hcf := Kh w2 base g kQ _ h3 (by rw [List.length_append, List.length_append]; omega)
  have H3 := qh h3; have H4 := qh h4
  clear h3 h4 hcs
  go_wp2_with fail
  refine hcf.mono ?_
  rintro e w3 ⟨rfl, h5, h6⟩
  have H5 := qh h5; have H6 := qh h6
  clear h5 h6 hcf
  go_wp2
  go_end0
  exact ⟨rfl, by rw [← List.append_assoc, ← List.append_assoc]; exact H5.out, ((bL.out.trans H2.out).trans H4.out).trans H6.out⟩
 ·rw [Dq hk]
  rcases hk with rfl | rfl | rfl
  all_goals
   go_enter Tryz.func139, Tryz.ntmps139
   go_wp2_with fail
   refine hc1.mono ?_
   rintro e w1 ⟨rfl, h1, h2⟩
   obtain ⟨c0, c1, c2, c3, c4, c5, c6⟩ := (h2.blk HW0.out HB0.out (by decide) (by omega)).seven
   have H1 := qh h1; have H2 := qh h2
   clear h1 h2 hc1
   go_wp2
   go_end0
   exact ⟨rfl, H1.out, bL.out.trans H2.out⟩
 ·rw [Gy hk]
  rcases hk with rfl | rfl
  all_goals
   go_enter Tryz.func139, Tryz.ntmps139
   go_wp2_with fail
   refine hc1.mono ?_
   rintro e w1 ⟨rfl, h1, h2⟩
   obtain ⟨c0, c1, c2, c3, c4, c5, c6⟩ := (h2.blk HW0.out HB0.out (by decide) (by omega)).seven
   have qd := EA m HM.out w1 base g B A l.length c l ys _ h1 (h2.reads HW0.out HR.out hB) (MW.out.below ((h2.below HW0.out).mono hB)) rfl hB (by omega) (by omega) Zy.out (by rw [List.length_append]; omega)
   have H1 := qh h1; have H2 := qh h2; have FI := qh qd
   clear h1 h2 hc1 qd
   go_wp2_with fail
   refine FI.out.mono ?_
   rintro e w2 ⟨rfl, h3, h4⟩
   have H3 := qh h3; have H4 := qh h4
   clear h3 h4
   go_wp2
   go_end0
   exact ⟨rfl, by rw [← List.append_assoc]; exact H3.out, (bL.out.trans H2.out).trans H4.out⟩
 ·rw [Jc]
  match l, h1 with
  | [q], _ =>
    obtain ⟨ad, k1, s1, neg1, lo1, hi1, A1, n1, c1', rfl, had, hpc, e0, e1, e2, e3, e4, e5, e6⟩ := kM HR.out MW.out rfl (i := 0) (by simp)
    have hz : ad.add (0 * 7) = ad := by simp [Addr.add]
    rw [hz] at e0 e1 e2 e3 e4 e5 e6
    have hpq : PatC (w.alloc (.cells #[.int .i64 5, .int .u32 a', .int .u32 b', .bool kQ, .int .i64 lo', .int .i64 hi', .slice (some ad) [q].length c] 58)) B q (aZ k1 s1 neg1 lo1 hi1 (.slice A1 n1 c1')) := hpc
    have YU : ptSizes [q] = ptSize q := by rw [aR, bO]; rfl
    have YV : gD [q] = lv q := by rw [oI, nE, List.append_nil]
    have hqo : sG q = true := qP (List.mem_singleton_self q) Zy.out
    rw [YV]
    rw [YU] at hsz h1000 hx
    have X5 := qh hpq
    have hcell : ∀ W, Below B (w.alloc (.cells #[.int .i64 5, .int .u32 a', .int .u32 b', .bool kQ, .int .i64 lo', .int .i64 hi', .slice (some ad) [q].length c] 58)) W → ∀ o, W.cell? ⟨ad.block, o, none⟩ = (w.alloc (.cells #[.int .i64 5, .int .u32 a', .int .u32 b', .bool kQ, .int .i64 lo', .int .i64 hi', .slice (some ad) [q].length c] 58)).cell? ⟨ad.block, o, none⟩ := fun W hW o => hW.cell (p := ⟨ad.block, o, none⟩) had
    have hcell0 : ∀ W, Below B (w.alloc (.cells #[.int .i64 5, .int .u32 a', .int .u32 b', .bool kQ, .int .i64 lo', .int .i64 hi', .slice (some ad) [q].length c] 58)) W → W.cell? ad = (w.alloc (.cells #[.int .i64 5, .int .u32 a', .int .u32 b', .bool kQ, .int .i64 lo', .int .i64 hi', .slice (some ad) [q].length c] 58)).cell? ad := fun W hW => hW.cell had
    simp only [List.length_singleton] at *
    have E0 := qh e0; have E1 := qh e1; have E2 := qh e2; have E3 := qh e3; have E4 := qh e4; have E5 := qh e5; have E6 := qh e6; have HC := qh hcell; have YE := qh hcell0
    clear hpc YU YV hpq e0 e1 e2 e3 e4 e5 e6 hcell hcell0 hz
    go_enter Tryz.func139, Tryz.ntmps139
    go_wp2_with fail
    refine hc1.mono ?_
    rintro e w1 ⟨rfl, h1, h2⟩
    obtain ⟨c0, c1, c2, c3, c4, c5, c6⟩ := (h2.blk HW0.out HB0.out (by decide) (by omega)).seven
    have hc2 := jq w1 base g lo' _ h1 hlo (by omega) (by rw [List.length_append]; omega)
    have hl2 := bG lo'.toNat
    have H1 := qh h1; have H2 := qh h2
    clear h1 h2 hc1
    go_wp2_with fail
    refine hc2.mono ?_
    rintro e w2 ⟨rfl, h3, h4⟩
    obtain ⟨c0, c1, c2, c3, c4, c5, c6⟩ := (h4.blk H1.out (H2.out.blk HW0.out HB0.out (by decide) (by omega)) (by decide) (by omega)).seven
    have hc3 := jq w2 base g (hi' + 1) _ h3 (by omega) (by omega) (by rw [List.length_append, List.length_append]; omega)
    have hl3 := bG (hi' + 1).toNat
    have H3 := qh h3; have H4 := qh h4
    clear h3 h4 hc2
    go_wp2_with fail
    refine hc3.mono ?_
    rintro e w3 ⟨rfl, h5, h6⟩
    have hst3 := (H2.out.trans H4.out).trans h6
    have dV := (hst3.below HW0.out).mono hB
    obtain ⟨c0, c1, c2, c3, c4, c5, c6⟩ := (hst3.blk HW0.out HB0.out (by decide) (by omega)).seven
    have f0 := (YE.out w3 dV).trans E0.out
    have f1 := (HC.out w3 dV _).trans E1.out
    have f2 := (HC.out w3 dV _).trans E2.out
    have f3 := (HC.out w3 dV _).trans E3.out
    have f4 := (HC.out w3 dV _).trans E4.out
    have f5 := (HC.out w3 dV _).trans E5.out
    have f6 := (HC.out w3 dV _).trans E6.out
    have hcp := HM.out q k1 s1 neg1 lo1 hi1 A1 n1 c1' w3 base g B _ (by omega) (by omega) hqo (X5.out.below dV) hB h5 (by rw [List.length_append, List.length_append, List.length_append]; omega)
    have H5 := qh h5; have H6 := qh hst3; have zM := qh hcp
    clear h5 h6 hc3 hst3 dV hcp hqo
    go_wp2_with fail
    refine zM.out.mono ?_
    rintro e w4 ⟨rfl, h7, h8⟩
    have H7 := qh h7; have H8 := qh h8
    clear h7 h8
    go_wp2
    go_end0
    exact ⟨rfl, by rw [← List.append_assoc, ← List.append_assoc, ← List.append_assoc]; exact H7.out, (bL.out.trans H6.out).trans H8.out⟩
theorem mK : ∀ m, nO m
 | 0 => fun p _ _ _ _ _ _ _ _ _ _ _ _ _ h => absurd h (by have := oF p; omega)
 | m + 1 => zg m (mK m)
structure Ot where
 src : Int
 clear : Nat
 set : Snd
 take : Nat
 ref : Int
instance : Inhabited Ot := ⟨⟨0, 0, (0, 0), 0, 0⟩⟩
abbrev jc (x : Ot) : List Value := [.int .i64 x.src, .int .u32 x.clear, .int .u32 x.set.1, .int .u32 x.set.2, .int .u32 x.take, .int .i64 x.ref]
abbrev Dt (x : Ot) : Value := .agg #[.int .i64 x.src, .int .u32 x.clear, .int .u32 x.set.1, .int .u32 x.set.2, .int .u32 x.take, .int .i64 x.ref]
def wV (x : Ot) : List Nat := numB (x.src + 1).toNat ++ (numB x.clear ++ (sndB x.set ++ (numB x.take ++ numB x.ref.toNat)))
def EW (x : Ot) : Prop := (-1 ≤ x.src ∧ x.src < 4294967295) ∧ is32 x.clear ∧ ok32 x.set ∧ is32 x.take ∧ (0 ≤ x.ref ∧ x.ref < 4294967296)
theorem Bq (x : Ot) : (wV x).length ≤ 30 := by
 unfold wV
 rw [List.length_append, List.length_append, List.length_append, List.length_append]
 have := bG (x.src + 1).toNat
 have := bG x.clear
 have := mG x.set
 have := bG x.take
 have := bG x.ref.toNat
 omega
theorem Blk.six {w : World} {g : Nat} {t : TypeId} {a0 a1 a2 a3 a4 a5 : Value} (h : Blk w g t #[a0, a1, a2, a3, a4, a5]) :
 w.cell? ⟨g, 0, none⟩ = some a0 ∧ w.cell? ⟨g, 1, none⟩ = some a1 ∧ w.cell? ⟨g, 2, none⟩ = some a2 ∧ w.cell? ⟨g, 3, none⟩ = some a3 ∧ w.cell? ⟨g, 4, none⟩ = some a4 ∧ w.cell? ⟨g, 5, none⟩ = some a5 :=
 ⟨h.cell 0, h.cell 1, h.cell 2, h.cell 3, h.cell 4, h.cell 5⟩
theorem Mf (w : World) (base g h0 : Nat) (x : Ot) (xs : List Nat) (h : Wr w base g xs) (hh : Blk w h0 142 #[af g]) (hok : EW x) (hx : xs.length + 30 ≤ CAP) :
 Calls Tryz.prog 141 #[Dt x, af h0] w fun e w' => e = .returned (.tuple #[]) ∧ Wr w' base g (xs ++ wV x) ∧ WStep g w w' := by
 obtain ⟨⟨a1, a2⟩, bW, hset, htk, r1, r2⟩ := hok
 obtain ⟨src, clear, set, take, ref⟩ := x
 simp only at *
 have hgh : h0 ≠ g := fun e => by
  subst e
  obtain ⟨v, b1, _⟩ := h
  exact Blk.ne_ b1 hh (by decide) rfl
 have hw0 := h.alloc (.cells #[.int .i64 src, .int .u32 clear, .int .u32 set.1, .int .u32 set.2, .int .u32 take, .int .i64 ref] 90)
 have hB0 := Blk.new w 90 #[.int .i64 src, .int .u32 clear, .int .u32 set.1, .int .u32 set.2, .int .u32 take, .int .i64 ref]
 have hh0 := hh.alloc (.cells #[.int .i64 src, .int .u32 clear, .int .u32 set.1, .int .u32 set.2, .int .u32 take, .int .i64 ref] 90)
 have aF := (WStep.refl g w).alloc h.lt (.cells #[.int .i64 src, .int .u32 clear, .int .u32 set.1, .int .u32 set.2, .int .u32 take, .int .i64 ref] 90)
 have hgl := h.lt
 have hhl := hh.lt
 have Mv := hh0.cell 0
 simp only [gq2] at Mv
 have hl1 := bG (src + 1).toNat
 have hl2 := bG clear
 have hl3 := mG set
 have hl4 := bG take
 have hc1 := jq _ base g (src + 1) xs hw0 (by omega) (by omega) (by omega)
 have HW0 := qh hw0; have HB0 := qh hB0; have bL := qh aF; have HH := qh hh0
 clear hw0 hB0 aF hh0 h hh
 show Calls _ _ _ _ fun e w' => e = .returned (.tuple #[]) ∧ Wr w' base g (xs ++ (numB (src + 1).toNat ++ (numB clear ++ (sndB set ++ (numB take ++ numB ref.toNat))))) ∧ WStep g w w'
 go_enter Tryz.func141, Tryz.ntmps141
 go_wp2_with fail
 refine hc1.mono ?_
 rintro e w1 ⟨rfl, h1, h2⟩
 have hb1 := h2.blk HW0.out HB0.out (by decide) (by omega)
 have hh1 := h2.blk HW0.out HH.out (by decide) hgh
 obtain ⟨c0, c1, c2, c3, c4, c5⟩ := hb1.six
 have Mv := hh1.cell 0
 simp only [gq2] at Mv
 have hc2 := pO w1 base g clear _ h1 bW (by rw [List.length_append]; omega)
 have H1 := qh h1; have H2 := qh h2; have HB1 := qh hb1; have PS := qh hh1
 clear h1 h2 hb1 hh1 hc1
 go_wp2_with fail
 refine hc2.mono ?_
 rintro e w2 ⟨rfl, h1, h2⟩
 have hb1 := h2.blk H1.out HB1.out (by decide) (by omega)
 have hh1 := h2.blk H1.out PS.out (by decide) hgh
 obtain ⟨c0, c1, c2, c3, c4, c5⟩ := hb1.six
 have Mv := hh1.cell 0
 simp only [gq2] at Mv
 have hc2 := qK w2 base g set _ h1 hset (by rw [List.length_append, List.length_append]; omega)
 have H3 := qh h1; have H4 := qh h2; have HB2 := qh hb1; have Yq := qh hh1
 clear h1 h2 hb1 hh1
 go_wp2_with fail
 refine hc2.mono ?_
 rintro e w3 ⟨rfl, h1, h2⟩
 have hb1 := h2.blk H3.out HB2.out (by decide) (by omega)
 have hh1 := h2.blk H3.out Yq.out (by decide) hgh
 obtain ⟨c0, c1, c2, c3, c4, c5⟩ := hb1.six
 have Mv := hh1.cell 0
 simp only [gq2] at Mv
 have hc2 := pO w3 base g take _ h1 htk (by rw [List.length_append, List.length_append, List.length_append]; omega)
 have H5 := qh h1; have H6 := qh h2; have HB3 := qh hb1; have Yp := qh hh1
 clear h1 h2 hb1 hh1
 go_wp2_with fail
 refine hc2.mono ?_
 rintro e w4 ⟨rfl, h1, h2⟩
 have hb1 := h2.blk H5.out HB3.out (by decide) (by omega)
 have hh1 := h2.blk H5.out Yp.out (by decide) hgh
 obtain ⟨c0, c1, c2, c3, c4, c5⟩ := hb1.six
 have Mv := hh1.cell 0
 simp only [gq2] at Mv
 have hc2 := jq w4 base g ref _ h1 r1 r2 (by rw [List.length_append, List.length_append, List.length_append, List.length_append]; omega)
 have H7 := qh h1; have H8 := qh h2
 clear h1 h2 hb1 hh1
 go_wp2_with fail
 refine hc2.mono ?_
 rintro e w5 ⟨rfl, h1, h2⟩
 have H9 := qh h1; have H10 := qh h2
 clear h1 h2
 go_wp2
 go_end0
 exact ⟨rfl, by rw [← List.append_assoc, ← List.append_assoc, ← List.append_assoc, ← List.append_assoc]; exact H9.out, ((((bL.out.trans H2.out).trans H4.out).trans H6.out).trans H8.out).trans H10.out⟩
theorem kP {w : World} {B n i : Nat} {A : Option Addr} {l : List Ot} (h : Reads w B 6 A n (l.flatMap jc)) (hi : i < l.length) :
 ∃ ad, A = some ad ∧ ad.block < B ∧ w.cell? (ad.add (i * 6)) = some (.int .i64 l[i].src) ∧ w.cell? ⟨(ad.add (i * 6)).block, (ad.add (i * 6)).off + 1, none⟩ = some (.int .u32 l[i].clear) ∧ w.cell? ⟨(ad.add (i * 6)).block, (ad.add (i * 6)).off + 2, none⟩ = some (.int .u32 l[i].set.1) ∧
  w.cell? ⟨(ad.add (i * 6)).block, (ad.add (i * 6)).off + 3, none⟩ = some (.int .u32 l[i].set.2) ∧ w.cell? ⟨(ad.add (i * 6)).block, (ad.add (i * 6)).off + 4, none⟩ = some (.int .u32 l[i].take) ∧ w.cell? ⟨(ad.add (i * 6)).block, (ad.add (i * 6)).off + 5, none⟩ = some (.int .i64 l[i].ref) := by
 obtain ⟨ad, e, hb, hc⟩ := h.row (fun _ => rfl) (by decide) hi
 exact ⟨ad, e, hb, hc 0 _ rfl, by rw [← aH ad (i * 6) 0]; exact hc 1 _ rfl, by rw [← aH ad (i * 6) 1]; exact hc 2 _ rfl, by rw [← aH ad (i * 6) 2]; exact hc 3 _ rfl, by rw [← aH ad (i * 6) 3]; exact hc 4 _ rfl, by rw [← aH ad (i * 6) 4]; exact hc 5 _ rfl⟩
def EU (l : List Ot) : List Nat := allB wV l
theorem EB (w : World) (base g h0 B : Nat) (A : Option Addr) (n c : Nat) (l : List Ot) (xs : List Nat) (h : Wr w base g xs) (hh : Blk w h0 142 #[af g]) (hr : Reads w B 6 A n (l.flatMap jc)) (hB : B ≤ base) (hn : n ≤ 1000) (hok : ∀ x ∈ l, EW x) (hx : xs.length + 5 + 30 * n ≤ CAP) :
 Calls Tryz.prog 140 #[af g, .slice A n c, .func (.func 141) #[] #[af h0]] w fun e w' => e = .returned (.tuple #[]) ∧ Wr w' base g (xs ++ EU l) ∧ WStep g w w' := by
 have hwl := hr.iD (fun _ => rfl) (by decide)
 have hc1 := iG w base g n xs h (by omega) (by omega)
 have hl := bG n
 have hgh : h0 ≠ g := fun e => by
  subst e
  obtain ⟨v, b1, _⟩ := h
  exact Blk.ne_ b1 hh (by decide) rfl
 have HH := qh h; have HR := qh hr; have wG := qh hwl; have gW := qh hok; have HB := qh hh
 clear h hr hwl hok hh
 go_enter Tryz.func140, Tryz.ntmps140
 go_wp2_with fail
 refine hc1.mono ?_
 rintro e w1 ⟨rfl, h1, h2⟩
 have HW := qh h1; have bL := qh h2
 clear h1 h2 hc1
 go_wp2
 go_loopw [14] (fun i wr => ∃ k : Nat, k ≤ n ∧ i = .int .i64 k ∧ Wr wr base g (xs ++ numB n ++ (l.take k).flatMap wV) ∧ WStep g w wr) (fun i _ => n - (RowKit.intOf i).toNat)
 case atStart => exact ⟨0, by omega, rfl, by simpa using HW.out, bL.out⟩
 case round =>
  obtain ⟨k, hk, rfl, hwr, aF⟩ := hrel
  have zK := qh hwr; have dz := qh aF
  clear hwr aF
  by_cases hlt : k < n
  ·have bB : k < l.length := by rw [wG.out]; exact hlt
   have cB : (k : Int) < (n : Int) := by omega
   obtain ⟨ad, rfl, had, hc0, hc1, hc2, hc3, hc4, hc5⟩ := kP (dz.out.reads HH.out HR.out hB) bB
   have hlen : (xs ++ numB n ++ (l.take k).flatMap wV).length + 30 ≤ CAP := by
    have := nM Bq (l.take k)
    rw [List.length_append, List.length_append]
    rw [List.length_take, wG.out] at this
    omega
   have hts := qD wV l k bB
   have ae := Mf _ base g h0 l[k] _ (zK.out.alloc (.cells #[.int .i64 l[k].src, .int .u32 l[k].clear, .int .u32 l[k].set.1, .int .u32 l[k].set.2, .int .u32 l[k].take, .int .i64 l[k].ref] 90)) ((dz.out.blk HH.out HB.out (by decide) hgh).alloc _) (gW.out _ (List.getElem_mem bB)) hlen
   have XN := qh hts; have aj := qh ae
   clear hts ae hlen
   generalize wV l[k] = ob at *
   generalize l[k] = x at *
   go_wp2_with fail
   refine aj.out.mono ?_
   rintro e w2 ⟨rfl, h3, h4⟩
   have H3 := qh h3; have H4 := qh h4
   clear h3 h4
   go_wp2
   go_roundw
   case rel => exact ⟨k + 1, by omega, by go_num, by rw [XN.out, ← List.append_assoc]; exact H3.out, (dz.out.alloc zK.out.lt _).trans H4.out⟩
   case measure => simp [RowKit.intOf]; omega
  ·obtain rfl : k = n := by omega
   go_wp2
   go_end0
   refine ⟨rfl, ?_, dz.out⟩
   have := zK.out
   rw [List.take_of_length_le (by rw [wG.out]; exact Nat.le_refl _), List.append_assoc] at this
   show Wr wr base g (xs ++ (numB l.length ++ l.flatMap wV))
   rw [wG.out]; exact this
end Go.Proofs.YtmepaeahchiglaaGreatDoor
