/-
  Layer 40: DictReaches, plainly. Conditions: none. Of no program.
-/
import Derived.Test.YtgkpoopiamicnaaDoorZaaq
namespace Go.Proofs.YtgkpoopiamicnaaDoor
open Go.RowKit Go.Lib

section
variable {gs : Grps} {L : List Art} {s t u : ByteArray}
theorem reach_first : Reach L s t ↔ RefD L s t ∨ ∃ u, RefD L s u ∧ Reach L u t := by
  constructor
  · intro h
    induction h with
    | one h1 => exact .inl h1
    | more h1 h2 ih =>
      rcases ih with h3 | ⟨v, h3, h4⟩
      · exact .inr ⟨_, h3, .one h2⟩
      · exact .inr ⟨v, h3, .more h4 h2⟩
  · rintro (h | ⟨v, h1, h2⟩)
    · exact .one h
    · exact (Reach.one h1).trans h2
theorem memB_filter {l : List ByteArray} {p : ByteArray → Bool} : memB (l.filter p) s = (memB l s && p s) := by
  rw [Bool.eq_iff_iff, Bool.and_eq_true, memB_iff, memB_iff, List.mem_filter]
theorem memB_from (hs : thereB L s = true) (ht : thereB L t = true) : memB (fromL L s) t = reachB L s t := by
  unfold fromL
  rw [if_pos hs, memB_filter]
  unfold thereB at ht
  rw [ht, Bool.true_and]
theorem fromE_zero (hs : thereB L s = true) : fromE L s = 0 := by unfold fromE; rw [if_pos hs]
/-- What the first j references reach. -/
noncomputable def byB (L : List Art) (s t : ByteArray) (j : Nat) : Bool := memB (seeOf L s) t || ((seeOf L s).take j).any fun u => decide (fromE L u = 0) && memB (fromL L u) t
theorem byB_zero : byB L s t 0 = memB (seeOf L s) t := by unfold byB; simp
theorem byB_succ {j : Nat} (hj : j < (seeOf L s).length) : byB L s t (j + 1) = (byB L s t j || (decide (fromE L (seeOf L s)[j] = 0) && memB (fromL L (seeOf L s)[j]) t)) := by
  unfold byB
  rw [List.take_succ_eq_append_getElem hj, List.any_append, List.any_cons, List.any_nil, Bool.or_false, Bool.or_assoc]
theorem byB_mono {j k : Nat} (hjk : j ≤ k) (h : byB L s t j = true) : byB L s t k = true := by
  unfold byB at h ⊢
  rw [Bool.or_eq_true] at h ⊢
  rcases h with h | h
  · exact .inl h
  · right
    rw [List.any_eq_true] at h ⊢
    obtain ⟨x, hx, hp⟩ := h
    exact ⟨x, List.mem_of_mem_take (i := j) (by rw [List.take_take, Nat.min_eq_left hjk]; exact hx), hp⟩
theorem byB_all (ht : thereB L t = true) : byB L s t (seeOf L s).length = reachB L s t := by
  unfold byB
  rw [List.take_length, Bool.eq_iff_iff, reachB_iff, reach_first, Bool.or_eq_true, memB_iff, List.any_eq_true]
  constructor
  · rintro (h | ⟨u, hu, h⟩)
    · exact .inl ⟨h, ht⟩
    · rw [Bool.and_eq_true, decide_eq_true_iff] at h
      obtain ⟨h1, h2⟩ := h
      have hth : thereB L u = true := by
        unfold fromE at h1
        split at h1
        · assumption
        · cases h1
      rw [memB_from hth ht, reachB_iff] at h2
      exact .inr ⟨u, ⟨hu, hth⟩, h2⟩
  · rintro (h | ⟨u, h1, h2⟩)
    · exact .inl h.1
    · refine .inr ⟨u, h1.1, ?_⟩
      rw [fromE_zero h1.2, memB_from h1.2 ht, reachB_iff.2 h2]
      rfl
theorem by_step (ht : thereB L t = true) (h : memB (seeOf L s) t = true) : reachB L s t = true := reachB_iff.2 (.one ⟨memB_iff.1 h, ht⟩)
/-! Cycles. -/
theorem both_iff : both L s t = true ↔ Reach L s t ∧ Reach L t s := by unfold both; rw [Bool.and_eq_true, reachB_iff, reachB_iff]
theorem both_comp (h : both L s t = true) : compOf L s = compOf L t := by
  obtain ⟨h1, h2⟩ := both_iff.1 h
  unfold compOf
  congr 1
  funext u
  rw [Bool.eq_iff_iff, both_iff, both_iff]
  exact ⟨fun h => ⟨h2.trans h.1, h.2.trans h1⟩, fun h => ⟨h1.trans h.1, h.2.trans h2⟩⟩
theorem countP_one {α : Type} {p : α → Bool} {x : α} : ∀ {l : List α}, l.Nodup → x ∈ l → p x = true → (∀ y ∈ l, p y = true → y = x) → l.countP p = 1
  | a :: l, hn, hx, hp, hu => by
    rw [List.nodup_cons] at hn
    rcases List.mem_cons.1 hx with rfl | hx
    · rw [List.countP_cons_of_pos hp, List.countP_eq_zero.2 fun y hy h => hn.1 (hu y (List.mem_cons_of_mem _ hy) h ▸ hy)]
    · have hna : ¬ p a = true := fun h => hn.1 (hu a List.mem_cons_self h ▸ hx)
      rw [List.countP_cons_of_neg hna]
      exact countP_one hn.2 hx hp fun y hy => hu y (List.mem_cons_of_mem _ hy)
/-- How many cycles have a head. -/
def ownK (C : List (List ByteArray)) (s : ByteArray) : Nat := C.countP fun c => memB c s
theorem ownK_all (hg : GoodD gs L) (hs : s ∈ headsL L) : ownK (cyclesL L (headsL L)) s = if reachB L s s = true then 1 else 0 := by
  have hmb : ∀ l, memB (compOf L l) s = both L l s := fun l => by
    unfold compOf
    rw [memB_filter, memB_iff.2 hs, Bool.true_and]
  unfold ownK cyclesL
  rw [List.countP_map, show ((fun c => memB c s) ∘ compOf L) = fun l => both L l s from funext hmb]
  by_cases hr : reachB L s s = true
  · rw [if_pos hr]
    have hrr := reachB_iff.1 hr
    have hin : s ∈ compOf L s := List.mem_filter.2 ⟨hs, both_iff.2 ⟨hrr, hrr⟩⟩
    obtain ⟨l0, r, hl0⟩ : ∃ l0 r, compOf L s = l0 :: r := by
      cases h : compOf L s with
      | nil => rw [h] at hin; cases hin
      | cons a r => exact ⟨a, r, rfl⟩
    have hm0 : l0 ∈ compOf L s := by rw [hl0]; exact List.mem_cons_self
    obtain ⟨hm1, hm2⟩ := List.mem_filter.1 hm0
    have hc0 := both_comp hm2
    have hb0 : both L l0 s = true := both_iff.2 ⟨(both_iff.1 hm2).2, (both_iff.1 hm2).1⟩
    refine countP_one (x := l0) (hg.nodup.filter _) (List.mem_filter.2 ⟨hm1, ?_⟩) hb0 fun y hy hb => ?_
    · unfold leadB
      rw [← hc0, hl0, decide_eq_true_iff]; rfl
    · have hy2 := (List.mem_filter.1 hy).2
      unfold leadB at hy2
      rw [decide_eq_true_iff, both_comp hb, hl0] at hy2
      exact (Option.some.inj hy2).symm
  · rw [if_neg hr, List.countP_eq_zero]
    intro l _ h
    obtain ⟨h1, h2⟩ := both_iff.1 h
    exact hr (reachB_iff.2 (h2.trans h1))
theorem cyc_all {c : List ByteArray} (hc : c ∈ cyclesL L (headsL L)) (hs : s ∈ c) (ht : t ∈ c) : memB (fromL L s) t = true := by
  unfold cyclesL at hc
  obtain ⟨l, hl, rfl⟩ := List.mem_map.1 hc
  obtain ⟨h1, h2⟩ := List.mem_filter.1 hs
  obtain ⟨h3, h4⟩ := List.mem_filter.1 ht
  have hst : thereB L s = true := by unfold thereB; rw [memB_iff]; exact h1
  have htt : thereB L t = true := by unfold thereB; rw [memB_iff]; exact h3
  rw [memB_from hst htt, reachB_iff]
  exact (both_iff.1 h2).2.trans (both_iff.1 h4).1
def sumN {α : Type} (f : α → Nat) (l : List α) : Nat := (l.map f).sum
theorem sumN_add {α : Type} {f g : α → Nat} : ∀ {l : List α}, sumN (fun x => f x + g x) l = sumN f l + sumN g l
  | [] => rfl
  | a :: l => by
    have h := sumN_add (f := f) (g := g) (l := l)
    unfold sumN at *
    simp only [List.map_cons, List.sum_cons]
    omega
theorem sumN_congr {α : Type} {f g : α → Nat} : ∀ {l : List α}, (∀ x ∈ l, f x = g x) → sumN f l = sumN g l
  | [], _ => rfl
  | a :: l, h => by
    have h2 := sumN_congr (f := f) (g := g) (l := l) fun x hx => h x (List.mem_cons_of_mem _ hx)
    unfold sumN at *
    simp only [List.map_cons, List.sum_cons]
    rw [h a List.mem_cons_self, h2]
theorem sumN_count {α : Type} {p : α → Bool} : ∀ {l : List α}, sumN (fun x => if p x = true then 1 else 0) l = (l.filter p).length
  | [] => rfl
  | a :: l => by
    have h := sumN_count (p := p) (l := l)
    unfold sumN at *
    simp only [List.map_cons, List.sum_cons, List.filter_cons]
    split
    · rw [h, List.length_cons]; omega
    · rw [h]; omega
theorem sumN_zero {α : Type} : ∀ {l : List α}, sumN (fun _ => 0) l = 0
  | [] => rfl
  | a :: l => by
    have h := sumN_zero (l := l)
    unfold sumN at *
    simp only [List.map_cons, List.sum_cons, h]
theorem sum_swap {H : List ByteArray} : ∀ {C : List (List ByteArray)}, (∀ c ∈ C, ∃ p, c = H.filter p) → sumN List.length C = sumN (ownK C) H
  | [], _ => by
    show 0 = sumN (fun _ => 0) H
    rw [sumN_zero]
  | c :: C, h => by
    have ih := sum_swap (H := H) (C := C) fun c hc => h c (List.mem_cons_of_mem _ hc)
    obtain ⟨p, rfl⟩ := h c List.mem_cons_self
    have e1 : sumN List.length (H.filter p :: C) = (H.filter p).length + sumN List.length C := by unfold sumN; rw [List.map_cons, List.sum_cons]
    have e2 : sumN (ownK (H.filter p :: C)) H = sumN (fun s => (if p s = true then 1 else 0) + ownK C s) H := sumN_congr fun s hs => by
      unfold ownK
      rw [List.countP_cons, memB_filter, memB_iff.2 hs, Bool.true_and, Nat.add_comm]
    rw [e1, e2, sumN_add, sumN_count, ih]
theorem cyc_sum : sumN List.length (cyclesL L (headsL L)) = sumN (ownK (cyclesL L (headsL L))) (headsL L) :=
  sum_swap fun c hc => by
    unfold cyclesL at hc
    obtain ⟨l, _, rfl⟩ := List.mem_map.1 hc
    exact ⟨_, rfl⟩
theorem sumN_drop {α : Type} {f : α → Nat} {l : List α} {i : Nat} (hi : i < l.length) : sumN f (l.drop i) = f l[i] + sumN f (l.drop (i + 1)) := by
  unfold sumN
  rw [List.drop_eq_getElem_cons hi, List.map_cons, List.sum_cons]
theorem sumN_take {α : Type} {f : α → Nat} {l : List α} {i : Nat} (hi : i < l.length) : sumN f (l.take (i + 1)) = sumN f (l.take i) + f l[i] := by
  unfold sumN
  rw [List.take_succ_eq_append_getElem hi, List.map_append, List.sum_append]
  simp
theorem sumN_le {α : Type} {f : α → Nat} {b : Nat} : ∀ {l : List α}, (∀ x ∈ l, f x ≤ b) → sumN f l ≤ l.length * b
  | [], _ => by simp [sumN]
  | a :: l, h => by
    have h1 := sumN_le (f := f) (b := b) (l := l) fun x hx => h x (List.mem_cons_of_mem _ hx)
    have h2 := h a List.mem_cons_self
    unfold sumN at *
    rw [List.map_cons, List.sum_cons, List.length_cons, Nat.succ_mul]
    omega
end
end Go.Proofs.YtgkpoopiamicnaaDoor
