/-
  layer 43: the writer's lists of sounds. Conditions: a list of the reach; numbers of 32 bits.
-/
import Derived.Test.YtmepaeahchiglaaGreatDoorZaab
import Derived.Test.YtmepaeahchiglaaGreatDoorZaaa
namespace Go.Proofs.YtmepaeahchiglaaGreatDoor
open Go.RowKit Go.Lib

theorem add_next (a : Addr) (n j : Nat) : a.add (n + (j + 1)) = ⟨(a.add n).block, (a.add n).off + (j + 1), none⟩ := by
  unfold Addr.add
  by_cases h : n = 0
  · subst h; simp
  · rw [if_neg h, if_neg (by omega)]; simp [Nat.add_assoc]
theorem Reads.len_of {α : Type} [Inhabited α] {w : World} {B n k : Nat} {A : Option Addr} {l : List α} {f : α → List Value} (h : Reads w B k A n (l.flatMap f)) (hk : ∀ x, (f x).length = k) (k0 : 0 < k) : l.length = n := by
  have := h.1
  rw [flatMap_len f k hk] at this
  exact Nat.eq_of_mul_eq_mul_right k0 this
theorem Reads.row {α : Type} [Inhabited α] {w : World} {B n k i : Nat} {A : Option Addr} {l : List α} {f : α → List Value} (h : Reads w B k A n (l.flatMap f)) (hk : ∀ x, (f x).length = k) (k0 : 0 < k) (hi : i < l.length) :
    ∃ ad, A = some ad ∧ ad.block < B ∧ ∀ j u, (f l[i])[j]? = some u → w.cell? (ad.add (i * k + j)) = some u := by
  have hl := h.len_of hk k0
  obtain ⟨ad, e, hb, hc⟩ := h.2 (by omega)
  refine ⟨ad, e, hb, fun j u hu => hc _ u ?_⟩
  have hj : j < k := by rw [← hk l[i]]; exact (List.getElem?_eq_some_iff.1 hu).1
  have hlt : i * k + j < l.length * k := by
    have : i * k + k ≤ l.length * k := by rw [← Nat.succ_mul]; exact Nat.mul_le_mul_right _ hi
    omega
  rw [flatMap_get f k hk l _ hlt, show (i * k + j) / k = i by rw [Nat.mul_comm, Nat.mul_add_div k0, Nat.div_eq_of_lt hj]; omega, show (i * k + j) % k = j by rw [Nat.mul_comm, Nat.mul_add_mod, Nat.mod_eq_of_lt hj], getElem!_pos l i hi, getElem!_pos (f l[i]) j (by rw [hk]; exact hj), ← hu, List.getElem?_eq_getElem]
theorem snd_cells {w : World} {B n i : Nat} {A : Option Addr} {l : List Snd} (h : Reads w B 2 A n (l.flatMap sndC)) (hi : i < l.length) :
    ∃ ad, A = some ad ∧ ad.block < B ∧ w.cell? (ad.add (i * 2)) = some (.int .u32 l[i].1) ∧ w.cell? ⟨(ad.add (i * 2)).block, (ad.add (i * 2)).off + 1, none⟩ = some (.int .u32 l[i].2) := by
  obtain ⟨ad, e, hb, hc⟩ := h.row (fun _ => rfl) (by decide) hi
  exact ⟨ad, e, hb, hc 0 _ rfl, by rw [← add_next ad (i * 2) 0]; exact hc 1 _ rfl⟩
theorem flatB_len {α : Type} {put : α → List Nat} {m : Nat} (h : ∀ x, (put x).length ≤ m) (l : List α) : (l.flatMap put).length ≤ m * l.length := by
  induction l with
  | nil => simp
  | cons x l ih =>
    rw [List.flatMap_cons, List.length_append, List.length_cons, Nat.mul_add]
    have := h x
    omega
theorem take_flat {α : Type} (put : α → List Nat) (l : List α) (k : Nat) (hk : k < l.length) : (l.take (k + 1)).flatMap put = (l.take k).flatMap put ++ put l[k] := by
  rw [List.take_succ_eq_append_getElem hk, List.flatMap_append]; simp
set_option maxRecDepth 20000 in
set_option maxHeartbeats 1000000 in
theorem allSnd_any (w : World) (base g B : Nat) (A : Option Addr) (n c : Nat) (ws : List Snd) (xs : List Nat) (h : Wr w base g xs) (hr : Reads w B 2 A n (ws.flatMap sndC)) (hB : B ≤ base) (hn : n < 4294967296) (hok : ∀ s ∈ ws, ok32 s) (hx : xs.length + 5 + 10 * n ≤ CAP) :
    Calls Tryz.prog 77 #[wptr g, .slice A n c, .func (.func 78) #[wptr g] #[]] w fun e w' => e = .returned (.tuple #[]) ∧ Wr w' base g (xs ++ wordB ws) ∧ WStep g w w' := by
  have hwl := hr.len_of (fun _ => rfl) (by decide)
  have hc1 := count_any w base g n xs h hn (by omega)
  have hl := numB_len n
  have HH := Lib.hid h; have HR := Lib.hid hr; have HWL := Lib.hid hwl; have HOK := Lib.hid hok
  clear h hr hwl hok
  go_enter Tryz.func77, Tryz.ntmps77
  go_wp2_with fail
  refine hc1.mono ?_
  rintro e w1 ⟨rfl, h1, h2⟩
  have HW := Lib.hid h1; have HST := Lib.hid h2
  clear h1 h2 hc1
  go_wp2
  go_loopw [14] (fun i wr => ∃ k : Nat, k ≤ n ∧ i = .int .i64 k ∧ Wr wr base g (xs ++ numB n ++ (ws.take k).flatMap sndB) ∧ WStep g w wr) (fun i _ => n - (RowKit.intOf i).toNat)
  case atStart => exact ⟨0, by omega, rfl, by simpa using HW.out, HST.out⟩
  case round =>
    obtain ⟨k, hk, rfl, hwr, hst⟩ := hrel
    have HWR := Lib.hid hwr; have HST2 := Lib.hid hst
    clear hwr hst
    by_cases hlt : k < n
    · have hkl : k < ws.length := by rw [HWL.out]; exact hlt
      have hkI : (k : Int) < (n : Int) := by omega
      obtain ⟨ad, rfl, had, hc0, hc1⟩ := snd_cells (HST2.out.reads HH.out HR.out hB) hkl
      go_wp2_with fail
      have hlen : (xs ++ numB n ++ (ws.take k).flatMap sndB).length + 10 ≤ CAP := by
        have := flatB_len sndB_len (ws.take k)
        rw [List.length_append, List.length_append]
        rw [List.length_take, HWL.out] at this
        omega
      refine (sound_any _ base g ws[k] _ (HWR.out.alloc _) (HOK.out _ (List.getElem_mem hkl)) hlen).mono ?_
      rintro e w2 ⟨rfl, h3, h4⟩
      have H3 := Lib.hid h3; have H4 := Lib.hid h4
      clear h3 h4
      go_wp2
      go_roundw
      case rel => exact ⟨k + 1, by omega, by go_num, by rw [take_flat sndB ws k hkl, ← List.append_assoc]; exact H3.out, (HST2.out.alloc HWR.out.lt _).trans H4.out⟩
      case measure => simp [RowKit.intOf]; omega
    · obtain rfl : k = n := by omega
      go_wp2
      go_end0
      refine ⟨rfl, ?_, HST2.out⟩
      have := HWR.out
      rw [List.take_of_length_le (by rw [HWL.out]; exact Nat.le_refl _), List.append_assoc] at this
      show Wr wr base g (xs ++ (numB ws.length ++ ws.flatMap sndB))
      rw [HWL.out]; exact this
end Go.Proofs.YtmepaeahchiglaaGreatDoor
namespace Go.Proofs.YtmepaeahchiglaaGreatDoor
open Go.RowKit Go.Lib

def validS (s : Snd) : Bool := decide (s.1 &&& s.2 = 0 ∧ s.1 ||| s.2 < 16777216)
theorem validS_true {s : Snd} (h1 : s.1 &&& s.2 = 0) (h2 : s.1 ||| s.2 < 16777216) : validS s = true := decide_eq_true ⟨h1, h2⟩
theorem validS_and {s : Snd} (h : ¬ s.1 &&& s.2 = 0) : validS s = false := decide_eq_false fun h' => h h'.1
theorem validS_or {s : Snd} (h : ¬ s.1 ||| s.2 < 16777216) : validS s = false := decide_eq_false fun h' => h h'.2
set_option maxRecDepth 20000 in
theorem wvalid_any (s : Snd) (w : World) (hs : ok32 s) : Calls Tryz.prog 79 #[sndV s] w fun e w' => e = .returned (.bool (validS s)) ∧ Below w.heap.size w w' := by
  have e1 := u32_and_nat s.1 s.2 hs.1 hs.2
  have e2 := u32_or_nat s.1 s.2 hs.1 hs.2
  have h32 : s.1 ||| s.2 < 4294967296 := Nat.or_lt_two_pow (n := 32) hs.1 hs.2
  obtain ⟨r, hr⟩ : ∃ r, validS s = r := ⟨_, rfl⟩
  rw [hr]
  by_cases h1 : s.1 &&& s.2 = 0
  · by_cases h2 : s.1 ||| s.2 < 16777216
    · rw [validS_true h1 h2] at hr
      subst hr
      obtain ⟨a, b⟩ := s
      simp only [] at *
      rw [h1] at e1
      generalize a ||| b = y at *
      have h2I : (y : Int) / 16777216 = 0 := by omega
      clear h1 hs
      go_enter Tryz.func79, Tryz.ntmps79
      go_wp2
      go_ret
      exact ⟨rfl, (Below.refl _ _).alloc (Nat.le_refl _) _⟩
    · rw [validS_or h2] at hr
      subst hr
      obtain ⟨a, b⟩ := s
      simp only [] at *
      rw [h1] at e1
      generalize a ||| b = y at *
      have h2I : ((y : Int) / 16777216 == 0) = false := by rw [beq_eq_false_iff_ne]; omega
      clear h1 hs
      go_enter Tryz.func79, Tryz.ntmps79
      go_wp2
      go_ret
      exact ⟨rfl, (Below.refl _ _).alloc (Nat.le_refl _) _⟩
  · rw [validS_and h1] at hr
    subst hr
    obtain ⟨a, b⟩ := s
    simp only [] at *
    generalize a &&& b = x at *
    have h1I : ((x : Int) == 0) = false := by rw [beq_eq_false_iff_ne]; omega
    clear h1 hs
    go_enter Tryz.func79, Tryz.ntmps79
    go_wp2
    go_ret
    exact ⟨rfl, (Below.refl _ _).alloc (Nat.le_refl _) _⟩
/-- The error of a word. -/
def wordE (ws : List Snd) : Int := if 32 < ws.length then 11 else if ws.all validS then 0 else 14
set_option maxRecDepth 20000 in
set_option maxHeartbeats 1000000 in
theorem wordCheck_any (A : Option Addr) (n c B : Nat) (ws : List Snd) (w : World) (hr : Reads w B 2 A n (ws.flatMap sndC)) (hB : B ≤ w.heap.size) (hn : n ≤ maxLen) (hok : ∀ s ∈ ws, ok32 s) :
    Calls Tryz.prog 26 #[.slice A n c] w fun e w' => e = .returned (.int .i64 (wordE ws)) ∧ Below w.heap.size w w' := by
  unfold maxLen at hn
  have hwl := hr.len_of (fun _ => rfl) (by decide)
  obtain ⟨r, hre⟩ : ∃ r, wordE ws = r := ⟨_, rfl⟩
  rw [hre]
  unfold wordE at hre
  rw [hwl] at hre
  have HRE := Lib.hid hre; have HR := Lib.hid hr; have HWL := Lib.hid hwl; have HOK := Lib.hid hok
  clear hr hwl hok hre
  by_cases h32 : 32 < n
  · have h32I : (32 : Int) < n := by omega
    go_enter Tryz.func26, Tryz.ntmps26
    go_wp2
    go_ret
    exact ⟨by rw [← HRE.out, if_pos h32]; rfl, Below.refl _ _⟩
  · have h32I : ¬ (32 : Int) < n := by omega
    go_enter Tryz.func26, Tryz.ntmps26
    go_wp2
    go_loopw [10] (fun i wr => ∃ k : Nat, k ≤ n ∧ i = .int .i64 k ∧ (ws.take k).all validS = true ∧ Below w.heap.size w wr) (fun i _ => n - (RowKit.intOf i).toNat)
    case atStart => exact ⟨0, by omega, rfl, by simp, Below.refl _ _⟩
    case round =>
      obtain ⟨k, hk, rfl, hall, hb⟩ := hrel
      have HALL := Lib.hid hall; have HB := Lib.hid hb
      clear hall hb
      by_cases hlt : k < n
      · have hkl : k < ws.length := by rw [HWL.out]; exact hlt
        have hkI : (k : Int) < (n : Int) := by omega
        obtain ⟨ad, rfl, had, hc0, hc1⟩ := snd_cells (HR.out.below (HB.out.mono hB)) hkl
        have hst : (ws.take (k + 1)).all validS = ((ws.take k).all validS && validS ws[k]) := by rw [List.take_succ_eq_append_getElem hkl, List.all_append]; simp
        have HST := Lib.hid hst
        have hmem := List.getElem_mem hkl
        clear hst
        cases hv : validS ws[k]
        · have hmem' : ¬ (ws.all validS = true) := fun h => by rw [List.all_eq_true.1 h _ hmem] at hv; cases hv
          have HM := Lib.hid hmem'; have HV := Lib.hid hv
          have hOK := HOK.out _ hmem
          clear hmem' hv hmem
          generalize ws[k] = s at *
          go_wp2_with fail
          refine (wvalid_any s _ hOK).mono ?_
          rw [HV.out]
          rintro e w2 ⟨rfl, hb2⟩
          have HB2 := Lib.hid hb2
          clear hb2
          go_wp2
          go_ret
          exact ⟨by rw [← HRE.out, if_neg h32, if_neg HM.out]; rfl, (HB.out.alloc HB.out.size _).trans (HB2.out.mono (by have := HB.out.size; simp; omega))⟩
        · have HV := Lib.hid hv
          have hOK := HOK.out _ hmem
          clear hv hmem
          generalize ws[k] = s at *
          go_wp2_with fail
          refine (wvalid_any s _ hOK).mono ?_
          rw [HV.out]
          rintro e w2 ⟨rfl, hb2⟩
          have HB2 := Lib.hid hb2
          clear hb2
          go_wp2
          go_roundw
          case rel => exact ⟨k + 1, by omega, by go_num, by rw [HST.out, HALL.out, HV.out]; rfl, (HB.out.alloc HB.out.size _).trans (HB2.out.mono (by have := HB.out.size; simp; omega))⟩
          case measure => simp [RowKit.intOf]; omega
      · obtain rfl : k = n := by omega
        go_wp2
        go_ret
        have := HALL.out
        rw [List.take_of_length_le (by rw [HWL.out]; exact Nat.le_refl _)] at this
        exact ⟨by rw [← HRE.out, if_neg h32, if_pos this]; rfl, HB.out⟩
end Go.Proofs.YtmepaeahchiglaaGreatDoor
namespace Go.Proofs.YtmepaeahchiglaaGreatDoor

/-- A pattern: Kind, Is, Not, Min, Max, L. -/
inductive Pt where
  | mk (k : Int) (s : Snd) (neg : Bool) (lo hi : Int) (l : List Pt)
mutual
def ptSize : Pt → Nat
  | .mk _ _ _ _ _ l => 1 + ptSizes l
def ptSizes : List Pt → Nat
  | [] => 0
  | p :: l => ptSize p + ptSizes l
end
theorem ptSize_mk (k : Int) (s : Snd) (neg : Bool) (lo hi : Int) (l : List Pt) : ptSize (.mk k s neg lo hi l) = 1 + ptSizes l := by rw [ptSize]
theorem ptSizes_nil : ptSizes [] = 0 := by rw [ptSizes]
theorem ptSizes_cons (p : Pt) (l : List Pt) : ptSizes (p :: l) = ptSize p + ptSizes l := by rw [ptSizes]
theorem ptSize_pos (p : Pt) : 0 < ptSize p := by
  obtain ⟨k, s, neg, lo, hi, l⟩ := p
  rw [ptSize_mk]; omega
theorem ptSizes_append (a b : List Pt) : ptSizes (a ++ b) = ptSizes a + ptSizes b := by
  induction a with
  | nil => rw [List.nil_append, ptSizes_nil, Nat.zero_add]
  | cons p l ih => rw [List.cons_append, ptSizes_cons, ptSizes_cons, ih, Nat.add_assoc]
theorem ptSizes_len (l : List Pt) : l.length ≤ ptSizes l := by
  induction l with
  | nil => exact Nat.zero_le _
  | cons p l ih => rw [ptSizes_cons, List.length_cons]; have := ptSize_pos p; omega
theorem ptSize_mem {p : Pt} {l : List Pt} (h : p ∈ l) : ptSize p ≤ ptSizes l := by
  induction l with
  | nil => cases h
  | cons q l ih =>
    rw [ptSizes_cons]
    rcases List.mem_cons.1 h with rfl | h
    · omega
    · have := ih h; omega
theorem ptSizes_take (l : List Pt) (k : Nat) : ptSizes (l.take k) ≤ ptSizes l := by
  have := ptSizes_append (l.take k) (l.drop k)
  rw [List.take_append_drop] at this
  omega
/-- Whether a node is allowed, apart from the nodes below it. -/
def nodeOk (k : Int) (s : Snd) (neg : Bool) (lo hi : Int) (n : Nat) : Bool :=
  if k = 1 then decide (lo = 0 ∧ hi = 0 ∧ n = 0) && validS s
  else decide (s = (0, 0)) && !neg && (if k = 0 ∨ k = 2 ∨ k = 6 then decide (lo = 0 ∧ hi = 0 ∧ n = 0) else if k = 3 ∨ k = 4 then decide (lo = 0 ∧ hi = 0) else if k = 5 then decide (n = 1 ∧ 0 ≤ lo ∧ lo ≤ 32 ∧ (hi = -1 ∨ (lo ≤ hi ∧ hi ≤ 32))) else false)
mutual
def ptOk : Pt → Bool
  | .mk k s neg lo hi l => nodeOk k s neg lo hi l.length && ptsOk l
def ptsOk : List Pt → Bool
  | [] => true
  | p :: l => ptOk p && ptsOk l
end
theorem ptOk_mk (k : Int) (s : Snd) (neg : Bool) (lo hi : Int) (l : List Pt) : ptOk (.mk k s neg lo hi l) = (nodeOk k s neg lo hi l.length && ptsOk l) := by rw [ptOk]
theorem ptsOk_nil : ptsOk [] = true := by rw [ptsOk]
theorem ptsOk_cons (p : Pt) (l : List Pt) : ptsOk (p :: l) = (ptOk p && ptsOk l) := by rw [ptsOk]
theorem ptsOk_append (a b : List Pt) : ptsOk (a ++ b) = (ptsOk a && ptsOk b) := by
  induction a with
  | nil => rw [List.nil_append, ptsOk_nil, Bool.true_and]
  | cons p l ih => rw [List.cons_append, ptsOk_cons, ptsOk_cons, ih, Bool.and_assoc]
theorem ptsOk_mem {p : Pt} {l : List Pt} (h : p ∈ l) (hl : ptsOk l = true) : ptOk p = true := by
  induction l with
  | nil => cases h
  | cons q l ih =>
    rw [ptsOk_cons, Bool.and_eq_true] at hl
    rcases List.mem_cons.1 h with rfl | h
    · exact hl.1
    · exact ih h hl.2
/-- Whether a pattern is valid. -/
def patOk (p : Pt) : Bool := ptOk p && decide (ptSize p ≤ 40)
/-! Patterns as bytes. -/
mutual
def patB : Pt → List Nat
  | .mk k s neg lo hi l => numB k.toNat ++ (if k = 1 then sndB s ++ numB (if neg then 1 else 0) else if k = 3 ∨ k = 4 then numB l.length ++ patsB l else if k = 5 then numB lo.toNat ++ (numB (hi + 1).toNat ++ patsB l) else [])
def patsB : List Pt → List Nat
  | [] => []
  | p :: l => patB p ++ patsB l
end
theorem patB_mk (k : Int) (s : Snd) (neg : Bool) (lo hi : Int) (l : List Pt) :
    patB (.mk k s neg lo hi l) = numB k.toNat ++ (if k = 1 then sndB s ++ numB (if neg then 1 else 0) else if k = 3 ∨ k = 4 then numB l.length ++ patsB l else if k = 5 then numB lo.toNat ++ (numB (hi + 1).toNat ++ patsB l) else []) := by rw [patB]
theorem patsB_nil : patsB [] = [] := by rw [patsB]
theorem patsB_cons (p : Pt) (l : List Pt) : patsB (p :: l) = patB p ++ patsB l := by rw [patsB]
theorem patsB_flat (l : List Pt) : patsB l = l.flatMap patB := by
  induction l with
  | nil => rw [patsB_nil]; rfl
  | cons p l ih => rw [patsB_cons, ih]; rfl
/-- What the nodes of a valid pattern are like. -/
theorem nodeOk_cases {k : Int} {s : Snd} {neg : Bool} {lo hi : Int} {n : Nat} (h : nodeOk k s neg lo hi n = true) :
    (k = 1 ∧ lo = 0 ∧ hi = 0 ∧ n = 0) ∨ ((k = 0 ∨ k = 2 ∨ k = 6) ∧ n = 0) ∨ (k = 3 ∨ k = 4) ∨ (k = 5 ∧ n = 1 ∧ 0 ≤ lo ∧ lo ≤ 32 ∧ -1 ≤ hi ∧ hi ≤ 32) := by
  unfold nodeOk at h
  by_cases h1 : k = 1
  · rw [if_pos h1, Bool.and_eq_true, decide_eq_true_iff] at h
    exact .inl ⟨h1, h.1⟩
  · rw [if_neg h1, Bool.and_eq_true, Bool.and_eq_true] at h
    obtain ⟨_, h⟩ := h
    by_cases h2 : k = 0 ∨ k = 2 ∨ k = 6
    · rw [if_pos h2, decide_eq_true_iff] at h
      exact .inr (.inl ⟨h2, h.2.2⟩)
    · rw [if_neg h2] at h
      by_cases h3 : k = 3 ∨ k = 4
      · exact .inr (.inr (.inl h3))
      · rw [if_neg h3] at h
        by_cases h5 : k = 5
        · rw [if_pos h5, decide_eq_true_iff] at h
          refine .inr (.inr (.inr ⟨h5, h.1, h.2.1, h.2.2.1, ?_⟩))
          rcases h.2.2.2 with h | h <;> omega
        · rw [if_neg h5] at h; cases h
mutual
theorem patB_len : ∀ p : Pt, (patB p).length ≤ 20 * ptSize p
  | .mk k s neg lo hi l => by
    rw [patB_mk, ptSize_mk, List.length_append]
    have h1 := patsB_len l
    have n1 : ∀ n, (numB n).length ≤ 5 := fun n => numK_len 5 n
    have h2 := n1 k.toNat
    have hs : (sndB s).length ≤ 10 := by
      show (numB s.1 ++ numB s.2).length ≤ 10
      rw [List.length_append]
      have := n1 s.1
      have := n1 s.2
      omega
    split
    · rw [List.length_append]
      have := n1 (if neg then 1 else 0)
      omega
    · split
      · rw [List.length_append]
        have := n1 l.length
        omega
      · split
        · rw [List.length_append, List.length_append]
          have := n1 lo.toNat
          have := n1 (hi + 1).toNat
          omega
        · rw [List.length_nil]; omega
theorem patsB_len : ∀ l : List Pt, (patsB l).length ≤ 20 * ptSizes l
  | [] => by rw [patsB_nil]; exact Nat.zero_le _
  | p :: l => by
    rw [patsB_cons, ptSizes_cons, List.length_append]
    have := patB_len p
    have := patsB_len l
    omega
end
end Go.Proofs.YtmepaeahchiglaaGreatDoor
namespace Go.Proofs.YtmepaeahchiglaaGreatDoor
open Go.RowKit Go.Lib

theorem or_lt24 {a b : Nat} : a ||| b < 16777216 ↔ a < 16777216 ∧ b < 16777216 :=
  ⟨fun h => ⟨Nat.lt_of_le_of_lt Nat.left_le_or h, Nat.lt_of_le_of_lt Nat.right_le_or h⟩, fun h => Nat.or_lt_two_pow (n := 24) h.1 h.2⟩
set_option maxRecDepth 20000 in
theorem rvalid2_any (s : Snd) (w : World) (hs : ok32 s) : Calls Tryz.prog 231 #[sndV s] w fun e w' => e = .returned (.bool (validS s)) ∧ Below w.heap.size w w' := by
  have e1 := u32_and_nat s.1 s.2 hs.1 hs.2
  obtain ⟨r, hr⟩ : ∃ r, validS s = r := ⟨_, rfl⟩
  rw [hr]
  by_cases h1 : s.1 &&& s.2 = 0
  · by_cases h2 : s.1 < 16777216
    · by_cases h3 : s.2 < 16777216
      · rw [validS_true h1 (or_lt24.2 ⟨h2, h3⟩)] at hr
        subst hr
        obtain ⟨a, b⟩ := s
        simp only [] at *
        rw [h1] at e1
        have h2I : (a : Int) < 16777216 := by omega
        have h3I : (b : Int) < 16777216 := by omega
        clear h1 hs
        go_enter Tryz.func231, Tryz.ntmps231
        go_wp2
        go_ret
        exact ⟨rfl, (Below.refl _ _).alloc (Nat.le_refl _) _⟩
      · rw [validS_or (fun h => h3 (or_lt24.1 h).2)] at hr
        subst hr
        obtain ⟨a, b⟩ := s
        simp only [] at *
        rw [h1] at e1
        have h2I : (a : Int) < 16777216 := by omega
        have h3I : ¬ (b : Int) < 16777216 := by omega
        clear h1 hs
        go_enter Tryz.func231, Tryz.ntmps231
        go_wp2
        go_ret
        exact ⟨rfl, (Below.refl _ _).alloc (Nat.le_refl _) _⟩
    · rw [validS_or (fun h => h2 (or_lt24.1 h).1)] at hr
      subst hr
      obtain ⟨a, b⟩ := s
      simp only [] at *
      rw [h1] at e1
      have h2I : ¬ (a : Int) < 16777216 := by omega
      clear h1 hs
      go_enter Tryz.func231, Tryz.ntmps231
      go_wp2
      go_ret
      exact ⟨rfl, (Below.refl _ _).alloc (Nat.le_refl _) _⟩
  · rw [validS_and h1] at hr
    subst hr
    obtain ⟨a, b⟩ := s
    simp only [] at *
    generalize a &&& b = x at *
    have h1I : ((x : Int) == 0) = false := by rw [beq_eq_false_iff_ne]; omega
    clear h1 hs
    go_enter Tryz.func231, Tryz.ntmps231
    go_wp2
    go_ret
    exact ⟨rfl, (Below.refl _ _).alloc (Nat.le_refl _) _⟩
set_option maxRecDepth 20000 in
theorem fvalid_any (s : Snd) (w : World) (hs : ok32 s) : Calls Tryz.prog 68 #[sndV s] w fun e w' => e = .returned (.bool (validS s)) ∧ Below w.heap.size w w' := by
  have e1 := u32_and_nat s.1 s.2 hs.1 hs.2
  have e2 := u32_or_nat s.1 s.2 hs.1 hs.2
  obtain ⟨r, hr⟩ : ∃ r, validS s = r := ⟨_, rfl⟩
  rw [hr]
  by_cases h1 : s.1 &&& s.2 = 0
  · by_cases h2 : s.1 ||| s.2 < 16777216
    · rw [validS_true h1 h2] at hr
      subst hr
      obtain ⟨a, b⟩ := s
      simp only [] at *
      rw [h1] at e1
      generalize a ||| b = y at *
      have h2I : (y : Int) ≤ 16777215 := by omega
      clear h1 hs
      go_enter Tryz.func68, Tryz.ntmps68
      go_wp2
      go_ret
      exact ⟨rfl, (Below.refl _ _).alloc (Nat.le_refl _) _⟩
    · rw [validS_or h2] at hr
      subst hr
      obtain ⟨a, b⟩ := s
      simp only [] at *
      rw [h1] at e1
      generalize a ||| b = y at *
      have h2I : ¬ (y : Int) ≤ 16777215 := by omega
      clear h1 hs
      go_enter Tryz.func68, Tryz.ntmps68
      go_wp2
      go_ret
      exact ⟨rfl, (Below.refl _ _).alloc (Nat.le_refl _) _⟩
  · rw [validS_and h1] at hr
    subst hr
    obtain ⟨a, b⟩ := s
    simp only [] at *
    generalize a &&& b = x at *
    have h1I : ((x : Int) == 0) = false := by rw [beq_eq_false_iff_ne]; omega
    clear h1 hs
    go_enter Tryz.func68, Tryz.ntmps68
    go_wp2
    go_ret
    exact ⟨rfl, (Below.refl _ _).alloc (Nat.le_refl _) _⟩
set_option maxRecDepth 20000 in
theorem pvalid_any (s : Snd) (w : World) (hs : ok32 s) : Calls Tryz.prog 191 #[sndV s] w fun e w' => e = .returned (.bool (validS s)) ∧ Below w.heap.size w w' := by
  have e1 := u32_and_nat s.1 s.2 hs.1 hs.2
  have e2 := u32_or_nat s.1 s.2 hs.1 hs.2
  have h32 : s.1 ||| s.2 < 4294967296 := Nat.or_lt_two_pow (n := 32) hs.1 hs.2
  obtain ⟨r, hr⟩ : ∃ r, validS s = r := ⟨_, rfl⟩
  rw [hr]
  by_cases h1 : s.1 &&& s.2 = 0
  · by_cases h2 : s.1 ||| s.2 < 16777216
    · rw [validS_true h1 h2] at hr
      subst hr
      obtain ⟨a, b⟩ := s
      simp only [] at *
      rw [h1] at e1
      generalize a ||| b = y at *
      have h2I : (y : Int) / 16777216 = 0 := by omega
      clear h1 hs
      go_enter Tryz.func191, Tryz.ntmps191
      go_wp2
      go_ret
      exact ⟨rfl, (Below.refl _ _).alloc (Nat.le_refl _) _⟩
    · rw [validS_or h2] at hr
      subst hr
      obtain ⟨a, b⟩ := s
      simp only [] at *
      rw [h1] at e1
      generalize a ||| b = y at *
      have h2I : ((y : Int) / 16777216 == 0) = false := by rw [beq_eq_false_iff_ne]; omega
      clear h1 hs
      go_enter Tryz.func191, Tryz.ntmps191
      go_wp2
      go_ret
      exact ⟨rfl, (Below.refl _ _).alloc (Nat.le_refl _) _⟩
  · rw [validS_and h1] at hr
    subst hr
    obtain ⟨a, b⟩ := s
    simp only [] at *
    generalize a &&& b = x at *
    have h1I : ((x : Int) == 0) = false := by rw [beq_eq_false_iff_ne]; omega
    clear h1 hs
    go_enter Tryz.func191, Tryz.ntmps191
    go_wp2
    go_ret
    exact ⟨rfl, (Below.refl _ _).alloc (Nat.le_refl _) _⟩
/-! The reference's layer 1 looks at the bits. -/
def bitOk (s : Snd) (f : Nat) : Bool := !(s.1.testBit f && s.2.testBit f) && !((s.1.testBit f || s.2.testBit f) && decide (24 ≤ f))
theorem lt24_bits {n : Nat} (h : n < 4294967296) : n < 16777216 ↔ ∀ f, 24 ≤ f → f < 32 → n.testBit f = false := by
  constructor
  · intro h' f hf _
    exact Nat.testBit_lt_two_pow (Nat.lt_of_lt_of_le h' (Nat.pow_le_pow_right (by decide) hf : 2 ^ 24 ≤ 2 ^ f))
  · intro h'
    refine Nat.lt_pow_two_of_testBit (n := 24) n fun i hi => ?_
    rcases Nat.lt_or_ge i 32 with h2 | h2
    · exact h' i hi h2
    · exact Nat.testBit_lt_two_pow (Nat.lt_of_lt_of_le h (Nat.pow_le_pow_right (by decide) h2 : 2 ^ 32 ≤ 2 ^ i))
theorem validS_bits {s : Snd} (hs : ok32 s) : validS s = (List.range 32).all (bitOk s) := by
  rw [Bool.eq_iff_iff, List.all_eq_true]
  unfold validS
  rw [decide_eq_true_iff, or_lt24, lt24_bits hs.1, lt24_bits hs.2]
  constructor
  · rintro ⟨h1, h2, h3⟩ f hf
    have hf' := List.mem_range.1 hf
    have h4 : (s.1.testBit f && s.2.testBit f) = false := by rw [← Nat.testBit_and, h1, Nat.zero_testBit]
    unfold bitOk
    rw [h4]
    by_cases h24 : 24 ≤ f
    · rw [h2 f h24 hf', h3 f h24 hf']; rfl
    · rw [decide_eq_false h24, Bool.and_false]; rfl
  · intro h
    have h' : ∀ f, f < 32 → bitOk s f = true := fun f hf => h f (List.mem_range.2 hf)
    refine ⟨Nat.eq_of_testBit_eq fun f => ?_, fun f h24 h32 => ?_, fun f h24 h32 => ?_⟩
    · rw [Nat.testBit_and, Nat.zero_testBit]
      rcases Nat.lt_or_ge f 32 with h2 | h2
      · have := h' f h2
        unfold bitOk at this
        cases h5 : (s.1.testBit f && s.2.testBit f)
        · rfl
        · rw [h5] at this; cases this
      · rw [Nat.testBit_lt_two_pow (Nat.lt_of_lt_of_le hs.1 (Nat.pow_le_pow_right (by decide) h2 : 2 ^ 32 ≤ 2 ^ f))]; rfl
    · have := h' f h32
      unfold bitOk at this
      rw [decide_eq_true h24] at this
      cases h5 : s.1.testBit f
      · rfl
      · rw [h5] at this; simp at this
    · have := h' f h32
      unfold bitOk at this
      rw [decide_eq_true h24] at this
      cases h5 : s.2.testBit f
      · rfl
      · rw [h5] at this; simp at this
end Go.Proofs.YtmepaeahchiglaaGreatDoor
namespace Go.Proofs.YtmepaeahchiglaaGreatDoor
open Go.RowKit Go.Lib

theorem bit_int (n f : Nat) (hn : n < 4294967296) : bits .and .u32 ((n : Int) / 2 ^ f) 1 = if n.testBit f then 1 else 0 := by
  have e : (n : Int) / 2 ^ f = ((n / 2 ^ f : Nat) : Int) := by simp
  rw [e]
  have h := u32_and_nat (n / 2 ^ f) 1 (Nat.lt_of_le_of_lt (Nat.div_le_self _ _) hn) (by decide)
  rw [Nat.and_one_is_mod] at h
  rw [show ((1 : Nat) : Int) = 1 from rfl] at h
  rw [h, Nat.testBit_eq_decide_div_mod_eq]
  by_cases h1 : n / 2 ^ f % 2 = 1
  · rw [h1]; simp
  · rw [show n / 2 ^ f % 2 = 0 by omega]; simp
set_option maxRecDepth 20000 in
set_option maxHeartbeats 1000000 in
theorem rvalid1_any (s : Snd) (w : World) (hs : ok32 s) : Calls Tryz.prog 197 #[sndV s] w fun e w' => e = .returned (.bool (validS s)) ∧ Below w.heap.size w w' := by
  rw [validS_bits hs]
  obtain ⟨r, hr⟩ : ∃ r, (List.range 32).all (bitOk s) = r := ⟨_, rfl⟩
  rw [hr]
  have HR := Lib.hid hr
  have HS := Lib.hid hs
  clear hr hs
  obtain ⟨a, b⟩ := s
  go_enter Tryz.func197, Tryz.ntmps197
  go_wp2
  go_loop [3] (fun i => ∃ k : Nat, k ≤ 32 ∧ i = .int .i64 k ∧ (List.range k).all (bitOk (a, b)) = true) (fun i => 32 - (RowKit.intOf i).toNat)
  case atStart => exact ⟨0, by omega, rfl, rfl⟩
  case round =>
    obtain ⟨k, hk, rfl, hall⟩ := hrel
    have HALL := Lib.hid hall
    clear hall
    by_cases hlt : k < 32
    · have hkI : (k : Int) < 32 := by omega
      have hst : (List.range (k + 1)).all (bitOk (a, b)) = bitOk (a, b) k := by rw [List.range_succ, List.all_append, HALL.out]; simp
      have hbo : bitOk (a, b) k = (!(a.testBit k && b.testBit k) && !((a.testBit k || b.testBit k) && decide (24 ≤ k))) := rfl
      have hfin : bitOk (a, b) k = false → r = false := fun h => by
        rw [← HR.out, List.all_eq_false]
        exact ⟨k, List.mem_range.2 hlt, by rw [h]; decide⟩
      have ha := bit_int a k HS.out.1
      have hb := bit_int b k HS.out.2
      have HST := Lib.hid hst; have HFIN := Lib.hid hfin
      clear hst hfin
      by_cases h24 : 24 ≤ k
      · have h24I : (24 : Int) ≤ k := by omega
        rw [decide_eq_true h24] at hbo
        cases hta : a.testBit k <;> cases htb : b.testBit k <;> rw [hta, htb] at hbo <;> rw [hta] at ha <;> rw [htb] at hb <;> simp only [if_true, if_false, Bool.false_eq_true] at ha hb <;> (have HBO := Lib.hid hbo) <;> clear hbo hta htb
        · go_wp2
          go_round
          case rel => exact ⟨k + 1, by omega, by go_num, by rw [HST.out, HBO.out]; rfl⟩
          case measure => simp [RowKit.intOf]; omega
        all_goals
          go_wp2
          go_ret
          exact ⟨by rw [HFIN.out HBO.out]; rfl, (Below.refl _ _).alloc (Nat.le_refl _) _⟩
      · have h24I : ¬ (24 : Int) ≤ k := by omega
        rw [decide_eq_false h24] at hbo
        cases hta : a.testBit k <;> cases htb : b.testBit k <;> rw [hta, htb] at hbo <;> rw [hta] at ha <;> rw [htb] at hb <;> simp only [if_true, if_false, Bool.false_eq_true] at ha hb <;> (have HBO := Lib.hid hbo) <;> clear hbo hta htb
        case true.true =>
          go_wp2
          go_ret
          exact ⟨by rw [HFIN.out HBO.out]; rfl, (Below.refl _ _).alloc (Nat.le_refl _) _⟩
        all_goals
          go_wp2
          go_round
          case rel => exact ⟨k + 1, by omega, by go_num, by rw [HST.out, HBO.out]; rfl⟩
          case measure => simp [RowKit.intOf]; omega
    · obtain rfl : k = 32 := by omega
      have hr := HR.out
      rw [HALL.out] at hr
      subst hr
      go_wp2
      go_ret
      exact ⟨rfl, (Below.refl _ _).alloc (Nat.le_refl _) _⟩
set_option maxRecDepth 20000 in
set_option maxHeartbeats 1000000 in
theorem refWord_any (A : Option Addr) (n c B : Nat) (ws : List Snd) (w : World) (hr : Reads w B 2 A n (ws.flatMap sndC)) (hB : B ≤ w.heap.size) (hn : n ≤ maxLen) (hok : ∀ s ∈ ws, ok32 s) :
    Calls Tryz.prog 204 #[.slice A n c] w fun e w' => e = .returned (.int .i64 (wordE ws)) ∧ Below w.heap.size w w' := by
  unfold maxLen at hn
  have hwl := hr.len_of (fun _ => rfl) (by decide)
  obtain ⟨r, hre⟩ : ∃ r, wordE ws = r := ⟨_, rfl⟩
  rw [hre]
  unfold wordE at hre
  rw [hwl] at hre
  have HRE := Lib.hid hre; have HR := Lib.hid hr; have HWL := Lib.hid hwl; have HOK := Lib.hid hok
  clear hr hwl hok hre
  by_cases h32 : 32 < n
  · have h32I : (32 : Int) < n := by omega
    go_enter Tryz.func204, Tryz.ntmps204
    go_wp2
    go_ret
    exact ⟨by rw [← HRE.out, if_pos h32]; rfl, Below.refl _ _⟩
  · have h32I : ¬ (32 : Int) < n := by omega
    go_enter Tryz.func204, Tryz.ntmps204
    go_wp2
    go_loopw [3] (fun i wr => ∃ k : Nat, k ≤ n ∧ i = .int .i64 k ∧ (ws.take k).all validS = true ∧ Below w.heap.size w wr) (fun i _ => n - (RowKit.intOf i).toNat)
    case atStart => exact ⟨0, by omega, rfl, by simp, Below.refl _ _⟩
    case round =>
      obtain ⟨k, hk, rfl, hall, hb⟩ := hrel
      have HALL := Lib.hid hall; have HB := Lib.hid hb
      clear hall hb
      by_cases hlt : k < n
      · have hkl : k < ws.length := by rw [HWL.out]; exact hlt
        have hkI : (k : Int) < (n : Int) := by omega
        obtain ⟨ad, rfl, had, hc0, hc1⟩ := snd_cells (HR.out.below (HB.out.mono hB)) hkl
        have hst : (ws.take (k + 1)).all validS = ((ws.take k).all validS && validS ws[k]) := by rw [List.take_succ_eq_append_getElem hkl, List.all_append]; simp
        have HST := Lib.hid hst
        have hmem := List.getElem_mem hkl
        clear hst
        cases hv : validS ws[k]
        · have hmem' : ¬ (ws.all validS = true) := fun h => by rw [List.all_eq_true.1 h _ hmem] at hv; cases hv
          have HM := Lib.hid hmem'; have HV := Lib.hid hv
          have hOK := HOK.out _ hmem
          clear hmem' hv hmem
          generalize ws[k] = s at *
          go_wp2_with fail
          refine (rvalid2_any s _ hOK).mono ?_
          rw [HV.out]
          rintro e w2 ⟨rfl, hb2⟩
          have HB2 := Lib.hid hb2
          clear hb2
          go_wp2
          go_ret
          exact ⟨by rw [← HRE.out, if_neg h32, if_neg HM.out]; rfl, HB.out.trans (HB2.out.mono HB.out.size)⟩
        · have HV := Lib.hid hv
          have hOK := HOK.out _ hmem
          clear hv hmem
          generalize ws[k] = s at *
          go_wp2_with fail
          refine (rvalid2_any s _ hOK).mono ?_
          rw [HV.out]
          rintro e w2 ⟨rfl, hb2⟩
          have HB2 := Lib.hid hb2
          clear hb2
          go_wp2
          go_roundw
          case rel => exact ⟨k + 1, by omega, by go_num, by rw [HST.out, HALL.out, HV.out]; rfl, HB.out.trans (HB2.out.mono HB.out.size)⟩
          case measure => simp [RowKit.intOf]; omega
      · obtain rfl : k = n := by omega
        go_wp2
        go_ret
        have := HALL.out
        rw [List.take_of_length_le (by rw [HWL.out]; exact Nat.le_refl _)] at this
        exact ⟨by rw [← HRE.out, if_neg h32, if_pos this]; rfl, HB.out⟩
end Go.Proofs.YtmepaeahchiglaaGreatDoor
