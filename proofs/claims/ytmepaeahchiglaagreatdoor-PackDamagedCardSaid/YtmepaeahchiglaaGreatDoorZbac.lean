/-
  layer 43: the writer's lists of sounds. Conditions: a list of the reach; numbers of 32 bits.
-/
import Derived.Test.YtmepaeahchiglaaGreatDoorZbab
import Derived.Test.YtmepaeahchiglaaGreatDoorZbaa
import Derived.Deep.RegionWith
import Derived.Deep.RegionLaw
namespace Go.Proofs.YtmepaeahchiglaaGreatDoor
open Go.RowKit Go.Lib

theorem add_next (a : Addr) (n j : Nat) : a.add (n + (j + 1)) = ⟨(a.add n).block, (a.add n).off + (j + 1), none⟩ := by
  unfold Addr.add
  by_cases h : n = 0
  · subst h; simp
  · rw [if_neg h, if_neg (by omega)]; simp [Nat.add_assoc]
theorem Reads.len_of {α : Type} [Inhabited α] {w : World} {B n k : Nat} {A : Option Addr} {l : List α} {f : α → List Value} (h : Reads w B k A n (l.flatMap f)) (hk : ∀ x, (f x).length = k) (k0 : 0 < k) : l.length = n := by
  have := h.1
  rw [flatMap_len f k hk] at this
  exact Nat.eq_of_mul_eq_mul_right k0 this
theorem Reads.row {α : Type} [Inhabited α] {w : World} {B n k i : Nat} {A : Option Addr} {l : List α} {f : α → List Value} (h : Reads w B k A n (l.flatMap f)) (hk : ∀ x, (f x).length = k) (k0 : 0 < k) (hi : i < l.length) :
    ∃ ad, A = some ad ∧ ad.block < B ∧ ∀ j u, (f l[i])[j]? = some u → w.cell? (ad.add (i * k + j)) = some u := by
  have hl := h.len_of hk k0
  obtain ⟨ad, e, hb, hc⟩ := h.2 (by omega)
  refine ⟨ad, e, hb, fun j u hu => hc _ u ?_⟩
  have hj : j < k := by rw [← hk l[i]]; exact (List.getElem?_eq_some_iff.1 hu).1
  have hlt : i * k + j < l.length * k := by
    have : i * k + k ≤ l.length * k := by rw [← Nat.succ_mul]; exact Nat.mul_le_mul_right _ hi
    omega
  rw [flatMap_get f k hk l _ hlt, show (i * k + j) / k = i by rw [Nat.mul_comm, Nat.mul_add_div k0, Nat.div_eq_of_lt hj]; omega, show (i * k + j) % k = j by rw [Nat.mul_comm, Nat.mul_add_mod, Nat.mod_eq_of_lt hj], getElem!_pos l i hi, getElem!_pos (f l[i]) j (by rw [hk]; exact hj), ← hu, List.getElem?_eq_getElem]
theorem snd_cells {w : World} {B n i : Nat} {A : Option Addr} {l : List Snd} (h : Reads w B 2 A n (l.flatMap sndC)) (hi : i < l.length) :
    ∃ ad, A = some ad ∧ ad.block < B ∧ w.cell? (ad.add (i * 2)) = some (.int .u32 l[i].1) ∧ w.cell? ⟨(ad.add (i * 2)).block, (ad.add (i * 2)).off + 1, none⟩ = some (.int .u32 l[i].2) := by
  obtain ⟨ad, e, hb, hc⟩ := h.row (fun _ => rfl) (by decide) hi
  exact ⟨ad, e, hb, hc 0 _ rfl, by rw [← add_next ad (i * 2) 0]; exact hc 1 _ rfl⟩
theorem flatB_len {α : Type} {put : α → List Nat} {m : Nat} (h : ∀ x, (put x).length ≤ m) (l : List α) : (l.flatMap put).length ≤ m * l.length := by
  induction l with
  | nil => simp
  | cons x l ih =>
    rw [List.flatMap_cons, List.length_append, List.length_cons, Nat.mul_add]
    have := h x
    omega
theorem take_flat {α : Type} (put : α → List Nat) (l : List α) (k : Nat) (hk : k < l.length) : (l.take (k + 1)).flatMap put = (l.take k).flatMap put ++ put l[k] := by
  rw [List.take_succ_eq_append_getElem hk, List.flatMap_append]; simp
set_option maxRecDepth 20000 in
set_option maxHeartbeats 1000000 in
theorem allSnd_any (w : World) (base g B : Nat) (A : Option Addr) (n c : Nat) (ws : List Snd) (xs : List Nat) (h : Wr w base g xs) (hr : Reads w B 2 A n (ws.flatMap sndC)) (hB : B ≤ base) (hn : n < 4294967296) (hok : ∀ s ∈ ws, ok32 s) (hx : xs.length + 5 + 10 * n ≤ CAP) :
    Calls Tryz.prog 77 #[wptr g, .slice A n c, .func (.func 78) #[wptr g] #[]] w fun e w' => e = .returned (.tuple #[]) ∧ Wr w' base g (xs ++ wordB ws) ∧ WStep g w w' := by
  have hwl := hr.len_of (fun _ => rfl) (by decide)
  have hc1 := count_any w base g n xs h hn (by omega)
  have hl := numB_len n
  have HH := Lib.hid h; have HR := Lib.hid hr; have HWL := Lib.hid hwl; have HOK := Lib.hid hok
  clear h hr hwl hok
  go_enter Tryz.func77, Tryz.ntmps77
  go_wp2_with fail
  refine hc1.mono ?_
  rintro e w1 ⟨rfl, h1, h2⟩
  have HW := Lib.hid h1; have HST := Lib.hid h2
  clear h1 h2 hc1
  go_wp2
  go_loopw [14] (fun i wr => ∃ k : Nat, k ≤ n ∧ i = .int .i64 k ∧ Wr wr base g (xs ++ numB n ++ (ws.take k).flatMap sndB) ∧ WStep g w wr) (fun i _ => n - (RowKit.intOf i).toNat)
  case atStart => exact ⟨0, by omega, rfl, by simpa using HW.out, HST.out⟩
  case round =>
    obtain ⟨k, hk, rfl, hwr, hst⟩ := hrel
    have HWR := Lib.hid hwr; have HST2 := Lib.hid hst
    clear hwr hst
    by_cases hlt : k < n
    · have hkl : k < ws.length := by rw [HWL.out]; exact hlt
      have hkI : (k : Int) < (n : Int) := by omega
      obtain ⟨ad, rfl, had, hc0, hc1⟩ := snd_cells (HST2.out.reads HH.out HR.out hB) hkl
      go_wp2_with fail
      have hlen : (xs ++ numB n ++ (ws.take k).flatMap sndB).length + 10 ≤ CAP := by
        have := flatB_len sndB_len (ws.take k)
        rw [List.length_append, List.length_append]
        rw [List.length_take, HWL.out] at this
        omega
      refine (sound_any _ base g ws[k] _ (HWR.out.alloc _) (HOK.out _ (List.getElem_mem hkl)) hlen).mono ?_
      rintro e w2 ⟨rfl, h3, h4⟩
      have H3 := Lib.hid h3; have H4 := Lib.hid h4
      clear h3 h4
      go_wp2
      go_roundw
      case rel => exact ⟨k + 1, by omega, by go_num, by rw [take_flat sndB ws k hkl, ← List.append_assoc]; exact H3.out, (HST2.out.alloc HWR.out.lt _).trans H4.out⟩
      case measure => simp [RowKit.intOf]; omega
    · obtain rfl : k = n := by omega
      go_wp2
      go_end0
      refine ⟨rfl, ?_, HST2.out⟩
      have := HWR.out
      rw [List.take_of_length_le (by rw [HWL.out]; exact Nat.le_refl _), List.append_assoc] at this
      show Wr wr base g (xs ++ (numB ws.length ++ ws.flatMap sndB))
      rw [HWL.out]; exact this
end Go.Proofs.YtmepaeahchiglaaGreatDoor
namespace Go.Proofs.YtmepaeahchiglaaGreatDoor
open Go.RowKit Go.Lib

def validS (s : Snd) : Bool := decide (s.1 &&& s.2 = 0 ∧ s.1 ||| s.2 < 16777216)
theorem validS_true {s : Snd} (h1 : s.1 &&& s.2 = 0) (h2 : s.1 ||| s.2 < 16777216) : validS s = true := decide_eq_true ⟨h1, h2⟩
theorem validS_and {s : Snd} (h : ¬ s.1 &&& s.2 = 0) : validS s = false := decide_eq_false fun h' => h h'.1
theorem validS_or {s : Snd} (h : ¬ s.1 ||| s.2 < 16777216) : validS s = false := decide_eq_false fun h' => h h'.2
set_option maxRecDepth 20000 in
theorem wvalid_any (s : Snd) (w : World) (hs : ok32 s) : Calls Tryz.prog 79 #[sndV s] w fun e w' => e = .returned (.bool (validS s)) ∧ Below w.heap.size w w' := by
  have e1 := u32_and_nat s.1 s.2 hs.1 hs.2
  have e2 := u32_or_nat s.1 s.2 hs.1 hs.2
  have h32 : s.1 ||| s.2 < 4294967296 := Nat.or_lt_two_pow (n := 32) hs.1 hs.2
  obtain ⟨r, hr⟩ : ∃ r, validS s = r := ⟨_, rfl⟩
  rw [hr]
  by_cases h1 : s.1 &&& s.2 = 0
  · by_cases h2 : s.1 ||| s.2 < 16777216
    · rw [validS_true h1 h2] at hr
      subst hr
      obtain ⟨a, b⟩ := s
      simp only [] at *
      rw [h1] at e1
      generalize a ||| b = y at *
      have h2I : (y : Int) / 16777216 = 0 := by omega
      clear h1 hs
      go_enter Tryz.func79, Tryz.ntmps79
      go_wp2
      go_ret
      exact ⟨rfl, (Below.refl _ _).alloc (Nat.le_refl _) _⟩
    · rw [validS_or h2] at hr
      subst hr
      obtain ⟨a, b⟩ := s
      simp only [] at *
      rw [h1] at e1
      generalize a ||| b = y at *
      have h2I : ((y : Int) / 16777216 == 0) = false := by rw [beq_eq_false_iff_ne]; omega
      clear h1 hs
      go_enter Tryz.func79, Tryz.ntmps79
      go_wp2
      go_ret
      exact ⟨rfl, (Below.refl _ _).alloc (Nat.le_refl _) _⟩
  · rw [validS_and h1] at hr
    subst hr
    obtain ⟨a, b⟩ := s
    simp only [] at *
    generalize a &&& b = x at *
    have h1I : ((x : Int) == 0) = false := by rw [beq_eq_false_iff_ne]; omega
    clear h1 hs
    go_enter Tryz.func79, Tryz.ntmps79
    go_wp2
    go_ret
    exact ⟨rfl, (Below.refl _ _).alloc (Nat.le_refl _) _⟩
/-- The error of a word. -/
def wordE (ws : List Snd) : Int := if 32 < ws.length then 11 else if ws.all validS then 0 else 14
set_option maxRecDepth 20000 in
set_option maxHeartbeats 1000000 in
theorem wordCheck_any (A : Option Addr) (n c B : Nat) (ws : List Snd) (w : World) (hr : Reads w B 2 A n (ws.flatMap sndC)) (hB : B ≤ w.heap.size) (hn : n ≤ maxLen) (hok : ∀ s ∈ ws, ok32 s) :
    Calls Tryz.prog 26 #[.slice A n c] w fun e w' => e = .returned (.int .i64 (wordE ws)) ∧ Below w.heap.size w w' := by
  unfold maxLen at hn
  have hwl := hr.len_of (fun _ => rfl) (by decide)
  obtain ⟨r, hre⟩ : ∃ r, wordE ws = r := ⟨_, rfl⟩
  rw [hre]
  unfold wordE at hre
  rw [hwl] at hre
  have HRE := Lib.hid hre; have HR := Lib.hid hr; have HWL := Lib.hid hwl; have HOK := Lib.hid hok
  clear hr hwl hok hre
  by_cases h32 : 32 < n
  · have h32I : (32 : Int) < n := by omega
    go_enter Tryz.func26, Tryz.ntmps26
    go_wp2
    go_ret
    exact ⟨by rw [← HRE.out, if_pos h32]; rfl, Below.refl _ _⟩
  · have h32I : ¬ (32 : Int) < n := by omega
    go_enter Tryz.func26, Tryz.ntmps26
    go_wp2
    go_loopw [10] (fun i wr => ∃ k : Nat, k ≤ n ∧ i = .int .i64 k ∧ (ws.take k).all validS = true ∧ Below w.heap.size w wr) (fun i _ => n - (RowKit.intOf i).toNat)
    case atStart => exact ⟨0, by omega, rfl, by simp, Below.refl _ _⟩
    case round =>
      obtain ⟨k, hk, rfl, hall, hb⟩ := hrel
      have HALL := Lib.hid hall; have HB := Lib.hid hb
      clear hall hb
      by_cases hlt : k < n
      · have hkl : k < ws.length := by rw [HWL.out]; exact hlt
        have hkI : (k : Int) < (n : Int) := by omega
        obtain ⟨ad, rfl, had, hc0, hc1⟩ := snd_cells (HR.out.below (HB.out.mono hB)) hkl
        have hst : (ws.take (k + 1)).all validS = ((ws.take k).all validS && validS ws[k]) := by rw [List.take_succ_eq_append_getElem hkl, List.all_append]; simp
        have HST := Lib.hid hst
        have hmem := List.getElem_mem hkl
        clear hst
        cases hv : validS ws[k]
        · have hmem' : ¬ (ws.all validS = true) := fun h => by rw [List.all_eq_true.1 h _ hmem] at hv; cases hv
          have HM := Lib.hid hmem'; have HV := Lib.hid hv
          have hOK := HOK.out _ hmem
          clear hmem' hv hmem
          generalize ws[k] = s at *
          go_wp2_with fail
          refine (wvalid_any s _ hOK).mono ?_
          rw [HV.out]
          rintro e w2 ⟨rfl, hb2⟩
          have HB2 := Lib.hid hb2
          clear hb2
          go_wp2
          go_ret
          exact ⟨by rw [← HRE.out, if_neg h32, if_neg HM.out]; rfl, (HB.out.alloc HB.out.size _).trans (HB2.out.mono (by have := HB.out.size; simp; omega))⟩
        · have HV := Lib.hid hv
          have hOK := HOK.out _ hmem
          clear hv hmem
          generalize ws[k] = s at *
          go_wp2_with fail
          refine (wvalid_any s _ hOK).mono ?_
          rw [HV.out]
          rintro e w2 ⟨rfl, hb2⟩
          have HB2 := Lib.hid hb2
          clear hb2
          go_wp2
          go_roundw
          case rel => exact ⟨k + 1, by omega, by go_num, by rw [HST.out, HALL.out, HV.out]; rfl, (HB.out.alloc HB.out.size _).trans (HB2.out.mono (by have := HB.out.size; simp; omega))⟩
          case measure => simp [RowKit.intOf]; omega
      · obtain rfl : k = n := by omega
        go_wp2
        go_ret
        have := HALL.out
        rw [List.take_of_length_le (by rw [HWL.out]; exact Nat.le_refl _)] at this
        exact ⟨by rw [← HRE.out, if_neg h32, if_pos this]; rfl, HB.out⟩
end Go.Proofs.YtmepaeahchiglaaGreatDoor
namespace Go.Proofs.YtmepaeahchiglaaGreatDoor

/-- A pattern: Kind, Is, Not, Min, Max, L. -/
inductive Pt where
  | mk (k : Int) (s : Snd) (neg : Bool) (lo hi : Int) (l : List Pt)
mutual
def ptSize : Pt → Nat
  | .mk _ _ _ _ _ l => 1 + ptSizes l
def ptSizes : List Pt → Nat
  | [] => 0
  | p :: l => ptSize p + ptSizes l
end
theorem ptSize_mk (k : Int) (s : Snd) (neg : Bool) (lo hi : Int) (l : List Pt) : ptSize (.mk k s neg lo hi l) = 1 + ptSizes l := by rw [ptSize]
theorem ptSizes_nil : ptSizes [] = 0 := by rw [ptSizes]
theorem ptSizes_cons (p : Pt) (l : List Pt) : ptSizes (p :: l) = ptSize p + ptSizes l := by rw [ptSizes]
theorem ptSize_pos (p : Pt) : 0 < ptSize p := by
  obtain ⟨k, s, neg, lo, hi, l⟩ := p
  rw [ptSize_mk]; omega
theorem ptSizes_append (a b : List Pt) : ptSizes (a ++ b) = ptSizes a + ptSizes b := by
  induction a with
  | nil => rw [List.nil_append, ptSizes_nil, Nat.zero_add]
  | cons p l ih => rw [List.cons_append, ptSizes_cons, ptSizes_cons, ih, Nat.add_assoc]
theorem ptSizes_len (l : List Pt) : l.length ≤ ptSizes l := by
  induction l with
  | nil => exact Nat.zero_le _
  | cons p l ih => rw [ptSizes_cons, List.length_cons]; have := ptSize_pos p; omega
theorem ptSize_mem {p : Pt} {l : List Pt} (h : p ∈ l) : ptSize p ≤ ptSizes l := by
  induction l with
  | nil => cases h
  | cons q l ih =>
    rw [ptSizes_cons]
    rcases List.mem_cons.1 h with rfl | h
    · omega
    · have := ih h; omega
/-- Whether a node is allowed, apart from the nodes below it. -/
def nodeOk (k : Int) (s : Snd) (neg : Bool) (lo hi : Int) (n : Nat) : Bool :=
  if k = 1 then decide (lo = 0 ∧ hi = 0 ∧ n = 0) && validS s
  else decide (s = (0, 0)) && !neg && (if k = 0 ∨ k = 2 ∨ k = 6 then decide (lo = 0 ∧ hi = 0 ∧ n = 0) else if k = 3 ∨ k = 4 then decide (lo = 0 ∧ hi = 0) else if k = 5 then decide (n = 1 ∧ 0 ≤ lo ∧ lo ≤ 32 ∧ (hi = -1 ∨ (lo ≤ hi ∧ hi ≤ 32))) else false)
mutual
def ptOk : Pt → Bool
  | .mk k s neg lo hi l => nodeOk k s neg lo hi l.length && ptsOk l
def ptsOk : List Pt → Bool
  | [] => true
  | p :: l => ptOk p && ptsOk l
end
theorem ptOk_mk (k : Int) (s : Snd) (neg : Bool) (lo hi : Int) (l : List Pt) : ptOk (.mk k s neg lo hi l) = (nodeOk k s neg lo hi l.length && ptsOk l) := by rw [ptOk]
theorem ptsOk_nil : ptsOk [] = true := by rw [ptsOk]
theorem ptsOk_cons (p : Pt) (l : List Pt) : ptsOk (p :: l) = (ptOk p && ptsOk l) := by rw [ptsOk]
theorem ptsOk_append (a b : List Pt) : ptsOk (a ++ b) = (ptsOk a && ptsOk b) := by
  induction a with
  | nil => rw [List.nil_append, ptsOk_nil, Bool.true_and]
  | cons p l ih => rw [List.cons_append, ptsOk_cons, ptsOk_cons, ih, Bool.and_assoc]
theorem ptsOk_mem {p : Pt} {l : List Pt} (h : p ∈ l) (hl : ptsOk l = true) : ptOk p = true := by
  induction l with
  | nil => cases h
  | cons q l ih =>
    rw [ptsOk_cons, Bool.and_eq_true] at hl
    rcases List.mem_cons.1 h with rfl | h
    · exact hl.1
    · exact ih h hl.2
/-- Whether a pattern is valid. -/
def patOk (p : Pt) : Bool := ptOk p && decide (ptSize p ≤ 40)
/-! Patterns as bytes. -/
mutual
def patB : Pt → List Nat
  | .mk k s neg lo hi l => numB k.toNat ++ (if k = 1 then sndB s ++ numB (if neg then 1 else 0) else if k = 3 ∨ k = 4 then numB l.length ++ patsB l else if k = 5 then numB lo.toNat ++ (numB (hi + 1).toNat ++ patsB l) else [])
def patsB : List Pt → List Nat
  | [] => []
  | p :: l => patB p ++ patsB l
end
theorem patB_mk (k : Int) (s : Snd) (neg : Bool) (lo hi : Int) (l : List Pt) :
    patB (.mk k s neg lo hi l) = numB k.toNat ++ (if k = 1 then sndB s ++ numB (if neg then 1 else 0) else if k = 3 ∨ k = 4 then numB l.length ++ patsB l else if k = 5 then numB lo.toNat ++ (numB (hi + 1).toNat ++ patsB l) else []) := by rw [patB]
theorem patsB_nil : patsB [] = [] := by rw [patsB]
theorem patsB_cons (p : Pt) (l : List Pt) : patsB (p :: l) = patB p ++ patsB l := by rw [patsB]
theorem patsB_flat (l : List Pt) : patsB l = l.flatMap patB := by
  induction l with
  | nil => rw [patsB_nil]; rfl
  | cons p l ih => rw [patsB_cons, ih]; rfl
/-- What the nodes of a valid pattern are like. -/
theorem nodeOk_cases {k : Int} {s : Snd} {neg : Bool} {lo hi : Int} {n : Nat} (h : nodeOk k s neg lo hi n = true) :
    (k = 1 ∧ lo = 0 ∧ hi = 0 ∧ n = 0) ∨ ((k = 0 ∨ k = 2 ∨ k = 6) ∧ n = 0) ∨ (k = 3 ∨ k = 4) ∨ (k = 5 ∧ n = 1 ∧ 0 ≤ lo ∧ lo ≤ 32 ∧ -1 ≤ hi ∧ hi ≤ 32) := by
  unfold nodeOk at h
  by_cases h1 : k = 1
  · rw [if_pos h1, Bool.and_eq_true, decide_eq_true_iff] at h
    exact .inl ⟨h1, h.1⟩
  · rw [if_neg h1, Bool.and_eq_true, Bool.and_eq_true] at h
    obtain ⟨_, h⟩ := h
    by_cases h2 : k = 0 ∨ k = 2 ∨ k = 6
    · rw [if_pos h2, decide_eq_true_iff] at h
      exact .inr (.inl ⟨h2, h.2.2⟩)
    · rw [if_neg h2] at h
      by_cases h3 : k = 3 ∨ k = 4
      · exact .inr (.inr (.inl h3))
      · rw [if_neg h3] at h
        by_cases h5 : k = 5
        · rw [if_pos h5, decide_eq_true_iff] at h
          refine .inr (.inr (.inr ⟨h5, h.1, h.2.1, h.2.2.1, ?_⟩))
          rcases h.2.2.2 with h | h <;> omega
        · rw [if_neg h5] at h; cases h
mutual
theorem patB_len : ∀ p : Pt, (patB p).length ≤ 20 * ptSize p
  | .mk k s neg lo hi l => by
    rw [patB_mk, ptSize_mk, List.length_append]
    have h1 := patsB_len l
    have n1 : ∀ n, (numB n).length ≤ 5 := fun n => numK_len 5 n
    have h2 := n1 k.toNat
    have hs : (sndB s).length ≤ 10 := by
      show (numB s.1 ++ numB s.2).length ≤ 10
      rw [List.length_append]
      have := n1 s.1
      have := n1 s.2
      omega
    split
    · rw [List.length_append]
      have := n1 (if neg then 1 else 0)
      omega
    · split
      · rw [List.length_append]
        have := n1 l.length
        omega
      · split
        · rw [List.length_append, List.length_append]
          have := n1 lo.toNat
          have := n1 (hi + 1).toNat
          omega
        · rw [List.length_nil]; omega
theorem patsB_len : ∀ l : List Pt, (patsB l).length ≤ 20 * ptSizes l
  | [] => by rw [patsB_nil]; exact Nat.zero_le _
  | p :: l => by
    rw [patsB_cons, ptSizes_cons, List.length_append]
    have := patB_len p
    have := patsB_len l
    omega
end
end Go.Proofs.YtmepaeahchiglaaGreatDoor
namespace Go.Proofs.YtmepaeahchiglaaGreatDoor
open Go.RowKit Go.Lib

theorem or_lt24 {a b : Nat} : a ||| b < 16777216 ↔ a < 16777216 ∧ b < 16777216 :=
  ⟨fun h => ⟨Nat.lt_of_le_of_lt Nat.left_le_or h, Nat.lt_of_le_of_lt Nat.right_le_or h⟩, fun h => Nat.or_lt_two_pow (n := 24) h.1 h.2⟩
set_option maxRecDepth 20000 in
theorem fvalid_any (s : Snd) (w : World) (hs : ok32 s) : Calls Tryz.prog 68 #[sndV s] w fun e w' => e = .returned (.bool (validS s)) ∧ Below w.heap.size w w' := by
  have e1 := u32_and_nat s.1 s.2 hs.1 hs.2
  have e2 := u32_or_nat s.1 s.2 hs.1 hs.2
  obtain ⟨r, hr⟩ : ∃ r, validS s = r := ⟨_, rfl⟩
  rw [hr]
  by_cases h1 : s.1 &&& s.2 = 0
  · by_cases h2 : s.1 ||| s.2 < 16777216
    · rw [validS_true h1 h2] at hr
      subst hr
      obtain ⟨a, b⟩ := s
      simp only [] at *
      rw [h1] at e1
      generalize a ||| b = y at *
      have h2I : (y : Int) ≤ 16777215 := by omega
      clear h1 hs
      go_enter Tryz.func68, Tryz.ntmps68
      go_wp2
      go_ret
      exact ⟨rfl, (Below.refl _ _).alloc (Nat.le_refl _) _⟩
    · rw [validS_or h2] at hr
      subst hr
      obtain ⟨a, b⟩ := s
      simp only [] at *
      rw [h1] at e1
      generalize a ||| b = y at *
      have h2I : ¬ (y : Int) ≤ 16777215 := by omega
      clear h1 hs
      go_enter Tryz.func68, Tryz.ntmps68
      go_wp2
      go_ret
      exact ⟨rfl, (Below.refl _ _).alloc (Nat.le_refl _) _⟩
  · rw [validS_and h1] at hr
    subst hr
    obtain ⟨a, b⟩ := s
    simp only [] at *
    generalize a &&& b = x at *
    have h1I : ((x : Int) == 0) = false := by rw [beq_eq_false_iff_ne]; omega
    clear h1 hs
    go_enter Tryz.func68, Tryz.ntmps68
    go_wp2
    go_ret
    exact ⟨rfl, (Below.refl _ _).alloc (Nat.le_refl _) _⟩
set_option maxRecDepth 20000 in
theorem pvalid_any (s : Snd) (w : World) (hs : ok32 s) : Calls Tryz.prog 191 #[sndV s] w fun e w' => e = .returned (.bool (validS s)) ∧ Below w.heap.size w w' := by
  have e1 := u32_and_nat s.1 s.2 hs.1 hs.2
  have e2 := u32_or_nat s.1 s.2 hs.1 hs.2
  have h32 : s.1 ||| s.2 < 4294967296 := Nat.or_lt_two_pow (n := 32) hs.1 hs.2
  obtain ⟨r, hr⟩ : ∃ r, validS s = r := ⟨_, rfl⟩
  rw [hr]
  by_cases h1 : s.1 &&& s.2 = 0
  · by_cases h2 : s.1 ||| s.2 < 16777216
    · rw [validS_true h1 h2] at hr
      subst hr
      obtain ⟨a, b⟩ := s
      simp only [] at *
      rw [h1] at e1
      generalize a ||| b = y at *
      have h2I : (y : Int) / 16777216 = 0 := by omega
      clear h1 hs
      go_enter Tryz.func191, Tryz.ntmps191
      go_wp2
      go_ret
      exact ⟨rfl, (Below.refl _ _).alloc (Nat.le_refl _) _⟩
    · rw [validS_or h2] at hr
      subst hr
      obtain ⟨a, b⟩ := s
      simp only [] at *
      rw [h1] at e1
      generalize a ||| b = y at *
      have h2I : ((y : Int) / 16777216 == 0) = false := by rw [beq_eq_false_iff_ne]; omega
      clear h1 hs
      go_enter Tryz.func191, Tryz.ntmps191
      go_wp2
      go_ret
      exact ⟨rfl, (Below.refl _ _).alloc (Nat.le_refl _) _⟩
  · rw [validS_and h1] at hr
    subst hr
    obtain ⟨a, b⟩ := s
    simp only [] at *
    generalize a &&& b = x at *
    have h1I : ((x : Int) == 0) = false := by rw [beq_eq_false_iff_ne]; omega
    clear h1 hs
    go_enter Tryz.func191, Tryz.ntmps191
    go_wp2
    go_ret
    exact ⟨rfl, (Below.refl _ _).alloc (Nat.le_refl _) _⟩
/-! The reference's layer 1 looks at the bits. -/
theorem lt24_bits {n : Nat} (h : n < 4294967296) : n < 16777216 ↔ ∀ f, 24 ≤ f → f < 32 → n.testBit f = false := by
  constructor
  · intro h' f hf _
    exact Nat.testBit_lt_two_pow (Nat.lt_of_lt_of_le h' (Nat.pow_le_pow_right (by decide) hf : 2 ^ 24 ≤ 2 ^ f))
  · intro h'
    refine Nat.lt_pow_two_of_testBit (n := 24) n fun i hi => ?_
    rcases Nat.lt_or_ge i 32 with h2 | h2
    · exact h' i hi h2
    · exact Nat.testBit_lt_two_pow (Nat.lt_of_lt_of_le h (Nat.pow_le_pow_right (by decide) h2 : 2 ^ 32 ≤ 2 ^ i))
end Go.Proofs.YtmepaeahchiglaaGreatDoor
namespace Go.Proofs.YtmepaeahchiglaaGreatDoor
open Go.RowKit Go.Lib

end Go.Proofs.YtmepaeahchiglaaGreatDoor
namespace Go.Proofs.YtmepaeahchiglaaGreatDoor
open Go.RowKit Go.Lib

/-- Bytes in new memory. -/
def GivesB (w : World) (bs : List Nat) (e : Ending) (w' : World) : Prop := ∃ v, e = .returned v ∧ w'.ownsRow w.heap.size 5 1 v bs.length (bs.map bv) ∧ Below w.heap.size w w'
theorem bv_one (l : List Nat) : ∀ u ∈ l.map bv, u.oneCell' = true := by
  intro u hu
  obtain ⟨b, _, rfl⟩ := List.mem_map.1 hu
  rfl
theorem bcell {W w1 : World} (hb : Below W.heap.size W w1) : (∀ b o, b < W.heap.size → w1.cell? ⟨b, o, none⟩ = W.cell? ⟨b, o, none⟩) ∧ (∀ b o, b < W.heap.size → w1.frozen? ⟨b, o, none⟩ = W.frozen? ⟨b, o, none⟩) :=
  ⟨fun b o h => hb.cell (p := ⟨b, o, none⟩) h, fun b o h => hb.frozen (p := ⟨b, o, none⟩) h⟩
theorem own_below' {w w' : World} {base : Nat} {e : TypeId} {size n : Nat} {v : Value} {xs : List Value} (h : w.ownsRow base e size v n xs) (hb : Below w.heap.size w w') : w'.ownsRow base e size v n xs :=
  h.kept (row := none) ⟨hb.os, hb.tape, hb.output, hb.size, fun k hk _ => hb.block k hk⟩ (by
    cases h' : v.ownBlock with
    | none => exact .inl rfl
    | some k => exact .inr (by simp))
theorem own_mono {w : World} {base base' : Nat} {e : TypeId} {size n : Nat} {v : Value} {xs : List Value} (h : w.ownsRow base e size v n xs) (hb : base' ≤ base) : w.ownsRow base' e size v n xs := by
  obtain ⟨h1, h2 | ⟨g, cap, cur, h3, h4, h5⟩⟩ := h
  · exact ⟨h1, .inl h2⟩
  · exact ⟨h1, .inr ⟨g, cap, cur, h3, Nat.le_trans hb h4, h5⟩⟩
/-- What PutWord returns. -/
def putW (ws : List Snd) : List Nat := if wordE ws = 0 then wordB ws else []
def GivesBE (w : World) (bs : List Nat) (x : Int) (e : Ending) (w' : World) : Prop := ∃ v, e = .returned (.tuple #[v, .int .i64 x]) ∧ w'.ownsRow w.heap.size 5 1 v bs.length (bs.map bv) ∧ Below w.heap.size w w'
theorem wordE_len {ws : List Snd} (h : wordE ws = 0) : ws.length ≤ 32 := by
  unfold wordE at h
  split at h
  · cases h
  · omega
/-- The program's PutWord. -/
theorem own_none {w : World} {base : Nat} (h : w.heap.size = base) : Wr (w.alloc (.cells #[.slice none 0 0] 92)) base base [] :=
  ⟨_, by rw [← h]; exact Blk.new w _ _, Nat.le_refl _, World.ownsRow_nil _ _ _ _⟩
end Go.Proofs.YtmepaeahchiglaaGreatDoor
namespace Go.Proofs.YtmepaeahchiglaaGreatDoor
open Go.RowKit Go.Lib

theorem wordB_len (ws : List Snd) : (wordB ws).length ≤ 5 + 10 * ws.length := by
  show (numB ws.length ++ ws.flatMap sndB).length ≤ _
  rw [List.length_append]
  have := numB_len ws.length
  have := flatB_len sndB_len ws
  omega
set_option maxRecDepth 20000 in
set_option maxHeartbeats 1000000 in
theorem putWord_any (A : Option Addr) (n c B : Nat) (ws : List Snd) (w : World) (hr : Reads w B 2 A n (ws.flatMap sndC)) (hB : B ≤ w.heap.size) (hn : n ≤ maxLen) (hok : ∀ s ∈ ws, ok32 s) :
    Calls Tryz.prog 25 #[.slice A n c] w (GivesBE w (putW ws) (wordE ws)) := by
  have hwl := hr.len_of (fun _ => rfl) (by decide)
  have hc := wordCheck_any A n c B ws w hr hB hn hok
  unfold GivesBE
  by_cases h0 : wordE ws = 0
  · have hp : putW ws = wordB ws := if_pos h0
    have h32 := wordE_len h0
    rw [hp, h0]
    rw [h0] at hc
    have hb := fun W (hW : Below w.heap.size w W) => allSnd_any (W.alloc (.cells #[.slice none 0 0] 92)) W.heap.size W.heap.size B A n c ws [] (own_none rfl) ((hr.below (hW.mono hB)).alloc (by have := hW.size; omega) _) (by have := hW.size; omega) (by omega) hok (by unfold CAP; simp; omega)
    rw [List.nil_append] at hb
    have HB := Lib.hid hb
    clear hr hok hb hp h0 hwl
    generalize wordB ws = bs at *
    go_enter Tryz.func25, Tryz.ntmps25
    go_wp2_with fail
    refine hc.mono ?_
    rintro e w1 ⟨rfl, hb1⟩
    have HB1 := Lib.hid hb1
    clear hb1
    go_wp2_with fail
    refine (HB.out _ HB1.out).mono ?_
    rintro e w2 ⟨rfl, h1, h2⟩
    have hw0 := own_none (w := w1) rfl
    have hbl := h2.below hw0
    obtain ⟨v, b1, b2, b3⟩ := h1
    have hc0 := b1.cell 0
    simp only [List.getElem?_toArray, List.getElem?_cons_zero] at hc0
    have hB2 : Below w.heap.size w w2 := (HB1.out.alloc HB1.out.size _).trans (hbl.mono HB1.out.size)
    have HB2 := Lib.hid hB2; have HO := Lib.hid b3
    clear hbl hw0 h2 b1 b2 b3 hB2
    go_wp2
    go_ret2
    exact ⟨_, rfl, own_mono HO.out HB1.out.size, HB2.out⟩
  · have hp : putW ws = [] := if_neg h0
    rw [hp]
    have hne : (wordE ws != 0) = true := by simpa using h0
    generalize wordE ws = x at *
    clear hr hok hp h0
    go_enter Tryz.func25, Tryz.ntmps25
    go_wp2_with fail
    refine hc.mono ?_
    rintro e w1 ⟨rfl, hb1⟩
    have HB1 := Lib.hid hb1
    clear hb1
    go_wp2
    go_ret2
    exact ⟨_, rfl, World.ownsRow_nil _ _ _ _, HB1.out⟩
end Go.Proofs.YtmepaeahchiglaaGreatDoor
