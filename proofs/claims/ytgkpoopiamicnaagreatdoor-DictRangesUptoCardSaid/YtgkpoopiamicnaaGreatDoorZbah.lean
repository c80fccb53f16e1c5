/-
  Plain facts of layer 39: the order is one; the letters of a beginning of a text at one of its letters. Conditions: none.
-/
import Derived.Test.YtgkpoopiamicnaaGreatDoorZbag
import Derived.Test.YtgkpoopiamicnaaGreatDoorZbaa
namespace Go.Proofs.YtgkpoopiamicnaaGreatDoor
open Go.RowKit Go.Lib

theorem cmpI_anti (a b : Int) : cmpI a b = - cmpI b a := by unfold cmpI; split <;> split <;> omega
theorem cmpI_range (a b : Int) : cmpI a b = -1 ∨ cmpI a b = 0 ∨ cmpI a b = 1 := by unfold cmpI; split <;> (try split) <;> simp
theorem cmpL_range (a b : List Int) : cmpL a b = -1 ∨ cmpL a b = 0 ∨ cmpL a b = 1 := by
  induction a generalizing b with
  | nil => cases b <;> simp [cmpL]
  | cons x a ih =>
    cases b with
    | nil => simp [cmpL]
    | cons y b =>
      rw [cmpL]
      split
      · exact ih b
      · exact cmpI_range x y
theorem cmpL_anti (a b : List Int) : cmpL a b = - cmpL b a := by
  induction a generalizing b with
  | nil => cases b <;> simp [cmpL]
  | cons x a ih =>
    cases b with
    | nil => simp [cmpL]
    | cons y b =>
      rw [cmpL, cmpL, cmpI_anti x y]
      by_cases h : cmpI y x = 0
      · rw [if_pos (by omega), if_pos h]; exact ih b
      · rw [if_neg (by omega), if_neg h]
theorem cmpI_le (a b : Int) : cmpI a b ≤ 0 ↔ a ≤ b := by unfold cmpI; split <;> (try split) <;> omega
theorem cmpI_lt (a b : Int) : cmpI a b < 0 ↔ a < b := by unfold cmpI; split <;> (try split) <;> omega
theorem cmpL_trans (a b c : List Int) (h1 : cmpL a b ≤ 0) (h2 : cmpL b c ≤ 0) : cmpL a c ≤ 0 ∧ (cmpL a b < 0 ∨ cmpL b c < 0 → cmpL a c < 0) := by
  induction a generalizing b c with
  | nil =>
    cases b with
    | nil =>
      cases c with
      | nil => simp [cmpL]
      | cons z c => simp [cmpL]
    | cons y b =>
      cases c with
      | nil => simp [cmpL] at h2
      | cons z c => simp [cmpL]
  | cons x a ih =>
    cases b with
    | nil => simp [cmpL] at h1
    | cons y b =>
      cases c with
      | nil => simp [cmpL] at h2
      | cons z c =>
        simp only [cmpL] at h1 h2 ⊢
        have hxy := cmpI_le x y; have hyz := cmpI_le y z; have hxz := cmpI_le x z
        have lxy := cmpI_lt x y; have lyz := cmpI_lt y z; have lxz := cmpI_lt x z
        by_cases e1 : cmpI x y = 0
        · have := cmpI_zero e1
          subst this
          by_cases e2 : cmpI x z = 0
          · rw [if_pos e1] at h1 ⊢; rw [if_pos e2] at h2 ⊢
            rw [if_pos e2]
            exact ih b c h1 h2
          · rw [if_pos e1] at h1 ⊢; rw [if_neg e2] at h2 ⊢
            rw [if_neg e2]
            exact ⟨h2, fun _ => by omega⟩
        · rw [if_neg e1] at h1 ⊢
          by_cases e2 : cmpI y z = 0
          · have := cmpI_zero e2
            subst this
            rw [if_neg e1]
            exact ⟨h1, fun _ => by omega⟩
          · rw [if_neg e2] at h2 ⊢
            have h3 : x < y := by omega
            have h4 : y < z := by omega
            have h5 : cmpI x z < 0 := by omega
            rw [if_neg (by omega)]
            exact ⟨by omega, fun _ => h5⟩
/-- Bytes as numbers: the same order. -/
theorem cmpB_L (a b : List UInt8) : Lib.compareBytes a b = cmpL (a.map fun c => (c.toNat : Int)) (b.map fun c => (c.toNat : Int)) := by
  induction a generalizing b with
  | nil => cases b <;> simp [cmpL, Lib.compareBytes]
  | cons x a ih =>
    cases b with
    | nil => simp [cmpL, Lib.compareBytes]
    | cons y b =>
      simp only [List.map_cons, cmpL, Lib.compareBytes, ih b]
      have h1 : x < y ↔ x.toNat < y.toNat := UInt8.lt_iff_toNat_lt
      have h2 : y < x ↔ y.toNat < x.toNat := UInt8.lt_iff_toNat_lt
      by_cases e1 : x.toNat < y.toNat
      · have hc : cmpI (x.toNat : Int) (y.toNat : Int) = -1 := by unfold cmpI; rw [if_pos (show (x.toNat : Int) < y.toNat by omega)]
        rw [if_pos (h1.2 e1), hc, if_neg (by decide)]
      · by_cases e2 : y.toNat < x.toNat
        · have hc : cmpI (x.toNat : Int) (y.toNat : Int) = 1 := by unfold cmpI; rw [if_neg (show ¬ (x.toNat : Int) < y.toNat by omega), if_pos (show (y.toNat : Int) < x.toNat by omega)]
          rw [if_neg (fun h => e1 (h1.1 h)), if_pos (h2.2 e2), hc, if_neg (by decide)]
        · have hc : cmpI (x.toNat : Int) (y.toNat : Int) = 0 := by unfold cmpI; rw [if_neg (show ¬ (x.toNat : Int) < y.toNat by omega), if_neg (show ¬ (y.toNat : Int) < x.toNat by omega)]
          rw [if_neg (fun h => e1 (h1.1 h)), if_neg (fun h => e2 (h2.1 h)), hc, if_pos rfl]
abbrev bsI (s : ByteArray) : List Int := (bl s).map fun c => (c.toNat : Int)
theorem beforeV_L (xs ys : List Int) (s t : ByteArray) : beforeV xs ys s t = if cmpL xs ys = 0 then cmpL (bsI s) (bsI t) else cmpL xs ys := by
  rw [beforeV_eq, cmpB_L]
theorem beforeV_range (xs ys : List Int) (s t : ByteArray) : beforeV xs ys s t = -1 ∨ beforeV xs ys s t = 0 ∨ beforeV xs ys s t = 1 := by
  rw [beforeV_L]; split
  · exact cmpL_range _ _
  · exact cmpL_range _ _
theorem beforeV_anti (xs ys : List Int) (s t : ByteArray) : beforeV xs ys s t = - beforeV ys xs t s := by
  rw [beforeV_L, beforeV_L]
  have h1 := cmpL_anti xs ys
  have h2 := cmpL_anti (bsI s) (bsI t)
  by_cases e : cmpL xs ys = 0
  · rw [if_pos e, if_pos (by omega)]; exact h2
  · rw [if_neg e, if_neg (by omega)]; exact h1
theorem beforeV_trans (xs ys zs : List Int) (s t u : ByteArray) (h1 : beforeV xs ys s t ≤ 0) (h2 : beforeV ys zs t u ≤ 0) : beforeV xs zs s u ≤ 0 := by
  rw [beforeV_L] at h1 h2 ⊢
  have a1 := cmpL_range xs ys; have a2 := cmpL_range ys zs; have a3 := cmpL_range xs zs
  by_cases e1 : cmpL xs ys = 0
  · by_cases e2 : cmpL ys zs = 0
    · rw [if_pos e1] at h1; rw [if_pos e2] at h2
      have t1 := cmpL_trans xs ys zs (by omega) (by omega)
      have t2 := (cmpL_trans _ _ _ h1 h2).1
      split
      · exact t2
      · exact t1.1
    · rw [if_neg e2] at h2
      have t1 := cmpL_trans xs ys zs (by omega) (by omega)
      have : cmpL xs zs < 0 := t1.2 (.inr (by omega))
      rw [if_neg (by omega)]; omega
  · rw [if_neg e1] at h1
    by_cases e2 : cmpL ys zs = 0
    · have t1 := cmpL_trans xs ys zs (by omega) (by omega)
      have : cmpL xs zs < 0 := t1.2 (.inl (by omega))
      rw [if_neg (by omega)]; omega
    · rw [if_neg e2] at h2
      have t1 := cmpL_trans xs ys zs (by omega) (by omega)
      have : cmpL xs zs < 0 := t1.2 (.inl (by omega))
      rw [if_neg (by omega)]; omega
theorem beforeV_self (xs : List Int) (s : ByteArray) : beforeV xs xs s s = 0 := by
  rw [beforeV_L, if_pos ((cmpL_eq _ _).2 rfl)]; exact (cmpL_eq _ _).2 rfl
theorem beforeV_zero {xs ys : List Int} {s t : ByteArray} (h : beforeV xs ys s t = 0) : s = t := by
  rw [beforeV_eq] at h
  split at h
  · exact bl_inj ((cmpB_eq _ _).1 h)
  · exact absurd h (by assumption)
end Go.Proofs.YtgkpoopiamicnaaGreatDoor
namespace Go.Proofs.YtgkpoopiamicnaaGreatDoor

/-- An order of texts, those with K compared. -/
structure GoodO (o : ByteArray → ByteArray → Int) (K : ByteArray → Prop) : Prop where
  anti : ∀ s t, o s t = - o t s
  range : ∀ s t, o s t = -1 ∨ o s t = 0 ∨ o s t = 1
  trans : ∀ s t u, K s → K t → K u → o s t ≤ 0 → o t u ≤ 0 → o s u ≤ 0
  zero : ∀ s t, K s → K t → o s t = 0 → s = t
section
variable {o : ByteArray → ByteArray → Int} {K : ByteArray → Prop}
theorem GoodO.self (h : GoodO o K) (s : ByteArray) : o s s = 0 := by have := h.anti s s; omega
theorem GoodO.lt_trans (h : GoodO o K) {s t u : ByteArray} (hs : K s) (ht : K t) (hu : K u) (h1 : o s t < 0) (h2 : o t u < 0) : o s u < 0 := by
  have h3 := h.trans s t u hs ht hu (by omega) (by omega)
  rcases Int.lt_or_eq_of_le h3 with h4 | h4
  · exact h4
  · have e := h.zero s u hs hu h4
    subst e
    have := h.anti s t
    omega
theorem GoodO.lt_le (h : GoodO o K) {s t u : ByteArray} (hs : K s) (ht : K t) (hu : K u) (h1 : o s t < 0) (h2 : o t u ≤ 0) : o s u < 0 := by
  rcases Int.lt_or_eq_of_le h2 with h4 | h4
  · exact h.lt_trans hs ht hu h1 h4
  · have e := h.zero t u ht hu h4
    subst e; exact h1
end
/-! A list whose elements with p stand ahead of the others. -/
section
variable {α : Type} {p : α → Bool}
def Ahead (p : α → Bool) (l : List α) : Prop := l.Pairwise fun a b => p b = true → p a = true
theorem Ahead.none {a : α} {l : List α} (h : Ahead p (a :: l)) (ha : p a = false) : ∀ b ∈ l, p b = false := fun b hb => by
  cases hp : p b with
  | false => rfl
  | true => rw [(List.pairwise_cons.1 h).1 b hb hp] at ha; cases ha
theorem ahead_take : ∀ {l : List α}, Ahead p l → l.take (l.countP p) = l.filter p
  | [], _ => rfl
  | a :: l, h => by
    have ht := (List.pairwise_cons.1 h).2
    cases ha : p a with
    | true => rw [List.countP_cons_of_pos ha, List.filter_cons_of_pos ha, List.take_succ_cons, ahead_take ht]
    | false =>
      have hn := h.none ha
      rw [List.countP_cons_of_neg (by simp [ha]), List.filter_cons_of_neg (by simp [ha])]
      rw [List.countP_eq_zero.2 (fun b hb => by simp [hn b hb]), List.filter_eq_nil_iff.2 (fun b hb => by simp [hn b hb])]
      rfl
theorem ahead_drop : ∀ {l : List α}, Ahead p l → l.drop (l.countP p) = l.filter (fun x => !p x)
  | [], _ => rfl
  | a :: l, h => by
    have ht := (List.pairwise_cons.1 h).2
    cases ha : p a with
    | true => rw [List.countP_cons_of_pos ha, List.filter_cons_of_neg (by simp [ha]), List.drop_succ_cons, ahead_drop ht]
    | false =>
      have hn := h.none ha
      rw [List.countP_cons_of_neg (by simp [ha]), List.countP_eq_zero.2 (fun b hb => by simp [hn b hb]), List.drop_zero]
      rw [List.filter_eq_self.2 (fun b hb => ?_)]
      rcases List.mem_cons.1 hb with rfl | hb
      · simp [ha]
      · simp [hn b hb]
theorem Ahead.sub {l m : List α} (h : Ahead p l) (hs : m.Sublist l) : Ahead p m := List.Pairwise.sublist hs h
/-- Those with q ahead of the others, those with p ahead of the others: what lies between. -/
theorem ahead_between {q : α → Bool} {l : List α} (hp : Ahead p l) (hq : Ahead q l) : (l.take (l.countP q)).drop (l.countP p) = l.filter (fun x => !p x && q x) := by
  have hs := hp.sub (List.take_sublist (l.countP q) l)
  have h1 := ahead_drop hs
  have h2 : (l.take (l.countP q)).countP p = min (l.countP p) (l.countP q) := by
    rw [ahead_take hq, List.countP_filter]
    have e : l.filter (fun x => p x && q x) = (l.take (l.countP p)).take (l.countP q) := by
      have hs2 := hq.sub (List.take_sublist (l.countP p) l)
      rcases Nat.le_total (l.countP p) (l.countP q) with hle | hle
      · rw [List.take_take, Nat.min_eq_right hle]
        rw [ahead_take hp]
        apply List.filter_congr
        intro x hx
        cases hpx : p x with
        | false => rfl
        | true =>
          have hm : x ∈ l.filter p := List.mem_filter.2 ⟨hx, hpx⟩
          rw [← ahead_take hp] at hm
          have hm2 : x ∈ l.take (l.countP q) := by
            have e : l.take (l.countP p) = (l.take (l.countP q)).take (l.countP p) := by rw [List.take_take, Nat.min_eq_left hle]
            rw [e] at hm
            exact List.mem_of_mem_take hm
          rw [ahead_take hq] at hm2
          simp [(List.mem_filter.1 hm2).2]
      · rw [List.take_take, Nat.min_eq_left hle, ahead_take hq]
        apply List.filter_congr
        intro x hx
        cases hqx : q x with
        | false => simp
        | true =>
          have hm : x ∈ l.filter q := List.mem_filter.2 ⟨hx, hqx⟩
          rw [← ahead_take hq] at hm
          have hm2 : x ∈ l.take (l.countP p) := by
            have e : l.take (l.countP q) = (l.take (l.countP p)).take (l.countP q) := by rw [List.take_take, Nat.min_eq_left hle]
            rw [e] at hm
            exact List.mem_of_mem_take hm
          rw [ahead_take hp] at hm2
          simp [(List.mem_filter.1 hm2).2]
    rw [List.countP_eq_length_filter, e, List.length_take, List.length_take]
    have := List.countP_le_length (p := p) (l := l)
    omega
  rw [h2] at h1
  have h3 : l.filter (fun x => !p x && q x) = (l.take (l.countP q)).filter (fun x => !p x) := by
    rw [ahead_take hq, List.filter_filter]
  rw [h3, ← h1]
  rcases Nat.le_total (l.countP p) (l.countP q) with hle | hle
  · rw [Nat.min_eq_left hle]
  · rw [Nat.min_eq_right hle, List.drop_eq_nil_of_le (by rw [List.length_take]; omega), List.drop_eq_nil_of_le (by rw [List.length_take]; omega)]
end
/-! Texts in order. -/
def SortedT (o : ByteArray → ByteArray → Int) (l : List ByteArray) : Prop := l.Pairwise fun s t => o s t < 0
section
variable {o : ByteArray → ByteArray → Int} {K : ByteArray → Prop}
theorem SortedT.ahead (h : GoodO o K) {l : List ByteArray} (hl : SortedT o l) (hk : ∀ s ∈ l, K s) {x : ByteArray} (hx : K x) : Ahead (fun y => decide (o y x < 0)) l := by
  refine List.Pairwise.imp_of_mem (fun {a b} ha hb hab hpb => ?_) hl
  rw [decide_eq_true_iff] at *
  exact h.lt_trans (hk a ha) (hk b hb) hx hab hpb
theorem SortedT.ahead_le (h : GoodO o K) {l : List ByteArray} (hl : SortedT o l) (hk : ∀ s ∈ l, K s) {x : ByteArray} (hx : K x) : Ahead (fun y => !decide (o x y < 0)) l := by
  refine List.Pairwise.imp_of_mem (fun {a b} ha hb hab hpb => ?_) hl
  simp only [Bool.not_eq_true', decide_eq_false_iff_not] at *
  have h1 := h.anti x b
  have h2 := h.anti x a
  have h3 := h.lt_le (hk a ha) (hk b hb) hx hab (by omega)
  omega
theorem SortedT.nodup (h : GoodO o K) {l : List ByteArray} (hl : SortedT o l) : l.Nodup := by
  refine List.Pairwise.imp (fun {a b} hab e => ?_) hl
  subst e
  rw [h.self a] at hab
  omega
/-- Two lists in order with the same elements are the same. -/
theorem sortedT_unique (h : GoodO o K) : ∀ {l m : List ByteArray}, SortedT o l → SortedT o m → (∀ s ∈ l, K s) → (∀ s, s ∈ l ↔ s ∈ m) → l = m
  | [], [], _, _, _, _ => rfl
  | [], b :: m, _, _, _, he => absurd ((he b).2 List.mem_cons_self) (by simp)
  | a :: l, [], _, _, _, he => absurd ((he a).1 List.mem_cons_self) (by simp)
  | a :: l, b :: m, hl, hm, hk, he => by
    have hl' := List.pairwise_cons.1 hl
    have hm' := List.pairwise_cons.1 hm
    have e : a = b := by
      rcases List.mem_cons.1 ((he a).1 List.mem_cons_self) with e | ha
      · exact e
      · rcases List.mem_cons.1 ((he b).2 List.mem_cons_self) with e | hb
        · exact e.symm
        · have h1 := hm'.1 a ha
          have h2 := hl'.1 b hb
          have := h.anti a b
          omega
    subst e
    have hna : a ∉ l := fun hx => by have := hl'.1 a hx; rw [h.self a] at this; omega
    have hnb : a ∉ m := fun hx => by have := hm'.1 a hx; rw [h.self a] at this; omega
    rw [sortedT_unique h hl'.2 hm'.2 (fun s hs => hk s (List.mem_cons_of_mem _ hs)) (fun s => ⟨fun hs => by
      rcases List.mem_cons.1 ((he s).1 (List.mem_cons_of_mem _ hs)) with e | hx
      · subst e; exact absurd hs hna
      · exact hx, fun hs => by
      rcases List.mem_cons.1 ((he s).2 (List.mem_cons_of_mem _ hs)) with e | hx
      · subst e; exact absurd hs hnb
      · exact hx⟩)]
/-- A text is laid into a list in order. -/
def insT (o : ByteArray → ByteArray → Int) (x : ByteArray) (l : List ByteArray) : List ByteArray := l.filter (fun y => decide (o y x < 0)) ++ x :: l.filter (fun y => !decide (o y x < 0))
theorem insT_mem {x : ByteArray} {l : List ByteArray} (s : ByteArray) : s ∈ insT o x l ↔ s = x ∨ s ∈ l := by
  unfold insT
  simp only [List.mem_append, List.mem_cons, List.mem_filter]
  constructor
  · rintro (⟨h, _⟩ | rfl | ⟨h, _⟩)
    · exact .inr h
    · exact .inl rfl
    · exact .inr h
  · rintro (rfl | h)
    · exact .inr (.inl rfl)
    · cases hd : decide (o s x < 0) with
      | true => exact .inl ⟨h, rfl⟩
      | false => exact .inr (.inr ⟨h, rfl⟩)
theorem insT_sorted (h : GoodO o K) {x : ByteArray} {l : List ByteArray} (hl : SortedT o l) (hk : ∀ s ∈ l, K s) (hx : K x) (hn : x ∉ l) : SortedT o (insT o x l) := by
  unfold insT SortedT
  rw [List.pairwise_append]
  refine ⟨List.Pairwise.sublist List.filter_sublist hl, List.pairwise_cons.2 ⟨fun b hb => ?_, List.Pairwise.sublist List.filter_sublist hl⟩, fun a ha b hb => ?_⟩
  · obtain ⟨hb1, hb2⟩ := List.mem_filter.1 hb
    simp only [Bool.not_eq_true', decide_eq_false_iff_not] at hb2
    have h1 := h.anti x b
    have h2 : o b x ≠ 0 := fun e => hn (by rw [← h.zero b x (hk b hb1) hx e]; exact hb1)
    omega
  · obtain ⟨ha1, ha2⟩ := List.mem_filter.1 ha
    rw [decide_eq_true_iff] at ha2
    rcases List.mem_cons.1 hb with rfl | hb
    · exact ha2
    · obtain ⟨hb1, hb2⟩ := List.mem_filter.1 hb
      simp only [Bool.not_eq_true', decide_eq_false_iff_not] at hb2
      have h1 := h.anti x b
      exact h.lt_le (hk a ha1) hx (hk b hb1) ha2 (by omega)
def memB (l : List ByteArray) (x : ByteArray) : Bool := l.any fun y => decide (y = x)
theorem memB_iff {l : List ByteArray} {x : ByteArray} : memB l x = true ↔ x ∈ l := by
  unfold memB
  rw [List.any_eq_true]
  exact ⟨fun ⟨y, h1, h2⟩ => by rw [← of_decide_eq_true h2]; exact h1, fun h => ⟨x, h, decide_eq_true rfl⟩⟩
/-- .. if it is not there. -/
def insU (o : ByteArray → ByteArray → Int) (l : List ByteArray) (x : ByteArray) : List ByteArray := if memB l x = true then l else insT o x l
theorem insU_mem {x : ByteArray} {l : List ByteArray} (s : ByteArray) : s ∈ insU o l x ↔ s = x ∨ s ∈ l := by
  unfold insU
  split
  · rename_i h
    exact ⟨.inr, fun hs => by
      rcases hs with rfl | hs
      · exact memB_iff.1 h
      · exact hs⟩
  · exact insT_mem s
theorem insU_sorted (h : GoodO o K) {x : ByteArray} {l : List ByteArray} (hl : SortedT o l) (hk : ∀ s ∈ l, K s) (hx : K x) : SortedT o (insU o l x) := by
  unfold insU
  split
  · exact hl
  · rename_i hn
    exact insT_sorted h hl hk hx fun hm => hn (memB_iff.2 hm)
theorem foldU_mem (l : List ByteArray) : ∀ (acc : List ByteArray) (s : ByteArray), s ∈ l.foldl (insU o) acc ↔ s ∈ l ∨ s ∈ acc := by
  induction l with
  | nil => intro acc s; simp
  | cons x l ih =>
    intro acc s
    rw [List.foldl_cons, ih, insU_mem, List.mem_cons]
    constructor
    · rintro (h | h | h)
      · exact .inl (.inr h)
      · exact .inl (.inl h)
      · exact .inr h
    · rintro ((h | h) | h)
      · exact .inr (.inl h)
      · exact .inl h
      · exact .inr (.inr h)
theorem foldU_sorted (h : GoodO o K) (l : List ByteArray) : ∀ (acc : List ByteArray), SortedT o acc → (∀ s ∈ acc, K s) → (∀ s ∈ l, K s) → SortedT o (l.foldl (insU o) acc) := by
  induction l with
  | nil => intro acc ha _ _; exact ha
  | cons x l ih =>
    intro acc ha hk hl
    rw [List.foldl_cons]
    refine ih _ (insU_sorted h ha hk (hl x List.mem_cons_self)) (fun s hs => ?_) (fun s hs => hl s (List.mem_cons_of_mem _ hs))
    rcases (insU_mem s).1 hs with rfl | hs
    · exact hl _ List.mem_cons_self
    · exact hk s hs
end
end Go.Proofs.YtgkpoopiamicnaaGreatDoor
namespace Go.Proofs.YtgkpoopiamicnaaGreatDoor
open Go.RowKit

section
variable {α : Type} [Inhabited α]
omit [Inhabited α] in
theorem flatMap_len (f : α → List Value) (k : Nat) (hk : ∀ x, (f x).length = k) (l : List α) : (l.flatMap f).length = l.length * k := by
  induction l with
  | nil => simp
  | cons x l ih => rw [List.flatMap_cons, List.length_append, hk, ih, List.length_cons, Nat.add_mul, Nat.one_mul, Nat.add_comm]
theorem flatMap_get (f : α → List Value) (k : Nat) (hk : ∀ x, (f x).length = k) (l : List α) : ∀ t, t < l.length * k → (l.flatMap f)[t]? = some ((f l[t / k]!)[t % k]!) := by
  induction l with
  | nil => intro t h; simp at h
  | cons x l ih =>
    intro t h
    rw [List.length_cons, Nat.add_mul, Nat.one_mul] at h
    have k0 : 0 < k := by
      rcases Nat.eq_zero_or_pos k with e | e
      · subst e; simp at h
      · exact e
    rw [List.flatMap_cons]
    rcases Nat.lt_or_ge t k with ht | ht
    · rw [List.getElem?_append_left (by rw [hk]; exact ht), Nat.div_eq_of_lt ht, Nat.mod_eq_of_lt ht]
      simp [getElem!_pos, hk, ht]
    · rw [List.getElem?_append_right (by rw [hk]; exact ht), hk, ih (t - k) (by omega)]
      have e1 : t / k = (t - k) / k + 1 := by
        conv => lhs; rw [show t = (t - k) + k by omega]
        rw [Nat.add_div_right _ k0]
      have e2 : t % k = (t - k) % k := by
        conv => lhs; rw [show t = (t - k) + k by omega]
        rw [Nat.add_mod_right]
      rw [e1, e2]
      simp
end
end Go.Proofs.YtgkpoopiamicnaaGreatDoor
