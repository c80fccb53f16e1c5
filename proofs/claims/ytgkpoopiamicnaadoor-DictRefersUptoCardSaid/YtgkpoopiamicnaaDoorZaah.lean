/-
  Layer 40, plainly: lists in an order; an article added, taken out; the articles between two texts; what is missing. Conditions: none. Of no program.
-/
import Derived.Test.YtgkpoopiamicnaaDoorZaaa
import Derived.Test.YtgkpoopiamicnaaDoorZaag
import Derived.Test.YtgkpoopiamicnaaDoorZaad
import Derived.Test.YtgkpoopiamicnaaDoorZaab
import Derived.Test.YtgkpoopiamicnaaDoorZaac
import Derived.Maps.RangeWalk
namespace Go.Proofs.YtgkpoopiamicnaaDoor

/-- An order of texts, those with K compared. -/
structure GoodO (o : ByteArray → ByteArray → Int) (K : ByteArray → Prop) : Prop where
  anti : ∀ s t, o s t = - o t s
  range : ∀ s t, o s t = -1 ∨ o s t = 0 ∨ o s t = 1
  trans : ∀ s t u, K s → K t → K u → o s t ≤ 0 → o t u ≤ 0 → o s u ≤ 0
  zero : ∀ s t, K s → K t → o s t = 0 → s = t
section
variable {o : ByteArray → ByteArray → Int} {K : ByteArray → Prop}
theorem GoodO.self (h : GoodO o K) (s : ByteArray) : o s s = 0 := by have := h.anti s s; omega
theorem GoodO.lt_trans (h : GoodO o K) {s t u : ByteArray} (hs : K s) (ht : K t) (hu : K u) (h1 : o s t < 0) (h2 : o t u < 0) : o s u < 0 := by
  have h3 := h.trans s t u hs ht hu (by omega) (by omega)
  rcases Int.lt_or_eq_of_le h3 with h4 | h4
  · exact h4
  · have e := h.zero s u hs hu h4
    subst e
    have := h.anti s t
    omega
theorem GoodO.lt_le (h : GoodO o K) {s t u : ByteArray} (hs : K s) (ht : K t) (hu : K u) (h1 : o s t < 0) (h2 : o t u ≤ 0) : o s u < 0 := by
  rcases Int.lt_or_eq_of_le h2 with h4 | h4
  · exact h.lt_trans hs ht hu h1 h4
  · have e := h.zero t u ht hu h4
    subst e; exact h1
end
/-! A list whose elements with p stand ahead of the others. -/
section
variable {α : Type} {p : α → Bool}
def Ahead (p : α → Bool) (l : List α) : Prop := l.Pairwise fun a b => p b = true → p a = true
theorem Ahead.none {a : α} {l : List α} (h : Ahead p (a :: l)) (ha : p a = false) : ∀ b ∈ l, p b = false := fun b hb => by
  cases hp : p b with
  | false => rfl
  | true => rw [(List.pairwise_cons.1 h).1 b hb hp] at ha; cases ha
theorem ahead_take : ∀ {l : List α}, Ahead p l → l.take (l.countP p) = l.filter p
  | [], _ => rfl
  | a :: l, h => by
    have ht := (List.pairwise_cons.1 h).2
    cases ha : p a with
    | true => rw [List.countP_cons_of_pos ha, List.filter_cons_of_pos ha, List.take_succ_cons, ahead_take ht]
    | false =>
      have hn := h.none ha
      rw [List.countP_cons_of_neg (by simp [ha]), List.filter_cons_of_neg (by simp [ha])]
      rw [List.countP_eq_zero.2 (fun b hb => by simp [hn b hb]), List.filter_eq_nil_iff.2 (fun b hb => by simp [hn b hb])]
      rfl
theorem ahead_drop : ∀ {l : List α}, Ahead p l → l.drop (l.countP p) = l.filter (fun x => !p x)
  | [], _ => rfl
  | a :: l, h => by
    have ht := (List.pairwise_cons.1 h).2
    cases ha : p a with
    | true => rw [List.countP_cons_of_pos ha, List.filter_cons_of_neg (by simp [ha]), List.drop_succ_cons, ahead_drop ht]
    | false =>
      have hn := h.none ha
      rw [List.countP_cons_of_neg (by simp [ha]), List.countP_eq_zero.2 (fun b hb => by simp [hn b hb]), List.drop_zero]
      rw [List.filter_eq_self.2 (fun b hb => ?_)]
      rcases List.mem_cons.1 hb with rfl | hb
      · simp [ha]
      · simp [hn b hb]
theorem Ahead.sub {l m : List α} (h : Ahead p l) (hs : m.Sublist l) : Ahead p m := List.Pairwise.sublist hs h
/-- Those with q ahead of the others, those with p ahead of the others: what lies between. -/
theorem ahead_between {q : α → Bool} {l : List α} (hp : Ahead p l) (hq : Ahead q l) : (l.take (l.countP q)).drop (l.countP p) = l.filter (fun x => !p x && q x) := by
  have hs := hp.sub (List.take_sublist (l.countP q) l)
  have h1 := ahead_drop hs
  have h2 : (l.take (l.countP q)).countP p = min (l.countP p) (l.countP q) := by
    rw [ahead_take hq, List.countP_filter]
    have e : l.filter (fun x => p x && q x) = (l.take (l.countP p)).take (l.countP q) := by
      have hs2 := hq.sub (List.take_sublist (l.countP p) l)
      rcases Nat.le_total (l.countP p) (l.countP q) with hle | hle
      · rw [List.take_take, Nat.min_eq_right hle]
        rw [ahead_take hp]
        apply List.filter_congr
        intro x hx
        cases hpx : p x with
        | false => rfl
        | true =>
          have hm : x ∈ l.filter p := List.mem_filter.2 ⟨hx, hpx⟩
          rw [← ahead_take hp] at hm
          have hm2 : x ∈ l.take (l.countP q) := by
            have e : l.take (l.countP p) = (l.take (l.countP q)).take (l.countP p) := by rw [List.take_take, Nat.min_eq_left hle]
            rw [e] at hm
            exact List.mem_of_mem_take hm
          rw [ahead_take hq] at hm2
          simp [(List.mem_filter.1 hm2).2]
      · rw [List.take_take, Nat.min_eq_left hle, ahead_take hq]
        apply List.filter_congr
        intro x hx
        cases hqx : q x with
        | false => simp
        | true =>
          have hm : x ∈ l.filter q := List.mem_filter.2 ⟨hx, hqx⟩
          rw [← ahead_take hq] at hm
          have hm2 : x ∈ l.take (l.countP p) := by
            have e : l.take (l.countP q) = (l.take (l.countP p)).take (l.countP q) := by rw [List.take_take, Nat.min_eq_left hle]
            rw [e] at hm
            exact List.mem_of_mem_take hm
          rw [ahead_take hp] at hm2
          simp [(List.mem_filter.1 hm2).2]
    rw [List.countP_eq_length_filter, e, List.length_take, List.length_take]
    have := List.countP_le_length (p := p) (l := l)
    omega
  rw [h2] at h1
  have h3 : l.filter (fun x => !p x && q x) = (l.take (l.countP q)).filter (fun x => !p x) := by
    rw [ahead_take hq, List.filter_filter]
  rw [h3, ← h1]
  rcases Nat.le_total (l.countP p) (l.countP q) with hle | hle
  · rw [Nat.min_eq_left hle]
  · rw [Nat.min_eq_right hle, List.drop_eq_nil_of_le (by rw [List.length_take]; omega), List.drop_eq_nil_of_le (by rw [List.length_take]; omega)]
end
/-! Texts in order. -/
def SortedT (o : ByteArray → ByteArray → Int) (l : List ByteArray) : Prop := l.Pairwise fun s t => o s t < 0
section
variable {o : ByteArray → ByteArray → Int} {K : ByteArray → Prop}
theorem SortedT.ahead (h : GoodO o K) {l : List ByteArray} (hl : SortedT o l) (hk : ∀ s ∈ l, K s) {x : ByteArray} (hx : K x) : Ahead (fun y => decide (o y x < 0)) l := by
  refine List.Pairwise.imp_of_mem (fun {a b} ha hb hab hpb => ?_) hl
  rw [decide_eq_true_iff] at *
  exact h.lt_trans (hk a ha) (hk b hb) hx hab hpb
theorem SortedT.ahead_le (h : GoodO o K) {l : List ByteArray} (hl : SortedT o l) (hk : ∀ s ∈ l, K s) {x : ByteArray} (hx : K x) : Ahead (fun y => !decide (o x y < 0)) l := by
  refine List.Pairwise.imp_of_mem (fun {a b} ha hb hab hpb => ?_) hl
  simp only [Bool.not_eq_true', decide_eq_false_iff_not] at *
  have h1 := h.anti x b
  have h2 := h.anti x a
  have h3 := h.lt_le (hk a ha) (hk b hb) hx hab (by omega)
  omega
theorem SortedT.nodup (h : GoodO o K) {l : List ByteArray} (hl : SortedT o l) : l.Nodup := by
  refine List.Pairwise.imp (fun {a b} hab e => ?_) hl
  subst e
  rw [h.self a] at hab
  omega
/-- Two lists in order with the same elements are the same. -/
theorem sortedT_unique (h : GoodO o K) : ∀ {l m : List ByteArray}, SortedT o l → SortedT o m → (∀ s ∈ l, K s) → (∀ s, s ∈ l ↔ s ∈ m) → l = m
  | [], [], _, _, _, _ => rfl
  | [], b :: m, _, _, _, he => absurd ((he b).2 List.mem_cons_self) (by simp)
  | a :: l, [], _, _, _, he => absurd ((he a).1 List.mem_cons_self) (by simp)
  | a :: l, b :: m, hl, hm, hk, he => by
    have hl' := List.pairwise_cons.1 hl
    have hm' := List.pairwise_cons.1 hm
    have e : a = b := by
      rcases List.mem_cons.1 ((he a).1 List.mem_cons_self) with e | ha
      · exact e
      · rcases List.mem_cons.1 ((he b).2 List.mem_cons_self) with e | hb
        · exact e.symm
        · have h1 := hm'.1 a ha
          have h2 := hl'.1 b hb
          have := h.anti a b
          omega
    subst e
    have hna : a ∉ l := fun hx => by have := hl'.1 a hx; rw [h.self a] at this; omega
    have hnb : a ∉ m := fun hx => by have := hm'.1 a hx; rw [h.self a] at this; omega
    rw [sortedT_unique h hl'.2 hm'.2 (fun s hs => hk s (List.mem_cons_of_mem _ hs)) (fun s => ⟨fun hs => by
      rcases List.mem_cons.1 ((he s).1 (List.mem_cons_of_mem _ hs)) with e | hx
      · subst e; exact absurd hs hna
      · exact hx, fun hs => by
      rcases List.mem_cons.1 ((he s).2 (List.mem_cons_of_mem _ hs)) with e | hx
      · subst e; exact absurd hs hnb
      · exact hx⟩)]
/-- A text is laid into a list in order. -/
def insT (o : ByteArray → ByteArray → Int) (x : ByteArray) (l : List ByteArray) : List ByteArray := l.filter (fun y => decide (o y x < 0)) ++ x :: l.filter (fun y => !decide (o y x < 0))
theorem insT_mem {x : ByteArray} {l : List ByteArray} (s : ByteArray) : s ∈ insT o x l ↔ s = x ∨ s ∈ l := by
  unfold insT
  simp only [List.mem_append, List.mem_cons, List.mem_filter]
  constructor
  · rintro (⟨h, _⟩ | rfl | ⟨h, _⟩)
    · exact .inr h
    · exact .inl rfl
    · exact .inr h
  · rintro (rfl | h)
    · exact .inr (.inl rfl)
    · cases hd : decide (o s x < 0) with
      | true => exact .inl ⟨h, rfl⟩
      | false => exact .inr (.inr ⟨h, rfl⟩)
theorem insT_sorted (h : GoodO o K) {x : ByteArray} {l : List ByteArray} (hl : SortedT o l) (hk : ∀ s ∈ l, K s) (hx : K x) (hn : x ∉ l) : SortedT o (insT o x l) := by
  unfold insT SortedT
  rw [List.pairwise_append]
  refine ⟨List.Pairwise.sublist List.filter_sublist hl, List.pairwise_cons.2 ⟨fun b hb => ?_, List.Pairwise.sublist List.filter_sublist hl⟩, fun a ha b hb => ?_⟩
  · obtain ⟨hb1, hb2⟩ := List.mem_filter.1 hb
    simp only [Bool.not_eq_true', decide_eq_false_iff_not] at hb2
    have h1 := h.anti x b
    have h2 : o b x ≠ 0 := fun e => hn (by rw [← h.zero b x (hk b hb1) hx e]; exact hb1)
    omega
  · obtain ⟨ha1, ha2⟩ := List.mem_filter.1 ha
    rw [decide_eq_true_iff] at ha2
    rcases List.mem_cons.1 hb with rfl | hb
    · exact ha2
    · obtain ⟨hb1, hb2⟩ := List.mem_filter.1 hb
      simp only [Bool.not_eq_true', decide_eq_false_iff_not] at hb2
      have h1 := h.anti x b
      exact h.lt_le (hk a ha1) hx (hk b hb1) ha2 (by omega)
def memB (l : List ByteArray) (x : ByteArray) : Bool := l.any fun y => decide (y = x)
theorem memB_iff {l : List ByteArray} {x : ByteArray} : memB l x = true ↔ x ∈ l := by
  unfold memB
  rw [List.any_eq_true]
  exact ⟨fun ⟨y, h1, h2⟩ => by rw [← of_decide_eq_true h2]; exact h1, fun h => ⟨x, h, decide_eq_true rfl⟩⟩
/-- .. if it is not there. -/
def insU (o : ByteArray → ByteArray → Int) (l : List ByteArray) (x : ByteArray) : List ByteArray := if memB l x = true then l else insT o x l
theorem insU_mem {x : ByteArray} {l : List ByteArray} (s : ByteArray) : s ∈ insU o l x ↔ s = x ∨ s ∈ l := by
  unfold insU
  split
  · rename_i h
    exact ⟨.inr, fun hs => by
      rcases hs with rfl | hs
      · exact memB_iff.1 h
      · exact hs⟩
  · exact insT_mem s
theorem insU_sorted (h : GoodO o K) {x : ByteArray} {l : List ByteArray} (hl : SortedT o l) (hk : ∀ s ∈ l, K s) (hx : K x) : SortedT o (insU o l x) := by
  unfold insU
  split
  · exact hl
  · rename_i hn
    exact insT_sorted h hl hk hx fun hm => hn (memB_iff.2 hm)
theorem foldU_mem (l : List ByteArray) : ∀ (acc : List ByteArray) (s : ByteArray), s ∈ l.foldl (insU o) acc ↔ s ∈ l ∨ s ∈ acc := by
  induction l with
  | nil => intro acc s; simp
  | cons x l ih =>
    intro acc s
    rw [List.foldl_cons, ih, insU_mem, List.mem_cons]
    constructor
    · rintro (h | h | h)
      · exact .inl (.inr h)
      · exact .inl (.inl h)
      · exact .inr h
    · rintro ((h | h) | h)
      · exact .inr (.inl h)
      · exact .inl h
      · exact .inr (.inr h)
theorem foldU_sorted (h : GoodO o K) (l : List ByteArray) : ∀ (acc : List ByteArray), SortedT o acc → (∀ s ∈ acc, K s) → (∀ s ∈ l, K s) → SortedT o (l.foldl (insU o) acc) := by
  induction l with
  | nil => intro acc ha _ _; exact ha
  | cons x l ih =>
    intro acc ha hk hl
    rw [List.foldl_cons]
    refine ih _ (insU_sorted h ha hk (hl x List.mem_cons_self)) (fun s hs => ?_) (fun s hs => hl s (List.mem_cons_of_mem _ hs))
    rcases (insU_mem s).1 hs with rfl | hs
    · exact hl _ List.mem_cons_self
    · exact hk s hs
end
end Go.Proofs.YtgkpoopiamicnaaDoor
namespace Go.Proofs.YtgkpoopiamicnaaDoor
open Go.RowKit Go.Lib

abbrev Grps := List (List ByteArray)
def keyOk (gs : Grps) (s : ByteArray) : Prop := (readRes gs s).1 = 0
def ordT (gs : Grps) (s t : ByteArray) : Int := (orderRes (readRes gs s) (readRes gs t) s t).1
theorem errTwo_zero {r1 r2 : Res} : errTwo r1 r2 = 0 ↔ r1.1 = 0 ∧ r2.1 = 0 := by
  unfold errTwo
  by_cases h : r1.1 = 0
  · rw [if_pos h]; exact ⟨fun h2 => ⟨h, h2⟩, fun h2 => h2.2⟩
  · rw [if_neg h]; exact ⟨fun h2 => absurd h2 h, fun h2 => absurd h2.1 h⟩
theorem ordT_ok {gs : Grps} {s t : ByteArray} (hs : keyOk gs s) (ht : keyOk gs t) : ordT gs s t = beforeV (keyS (readRes gs s).2) (keyS (readRes gs t).2) s t := by
  unfold ordT orderRes
  rw [if_pos (errTwo_zero.2 ⟨hs, ht⟩)]
theorem ordT_bad {gs : Grps} {s t : ByteArray} (h : ¬ (keyOk gs s ∧ keyOk gs t)) : ordT gs s t = 0 := by
  unfold ordT orderRes
  rw [if_neg (fun e => h (errTwo_zero.1 e))]
theorem goodO (gs : Grps) : GoodO (ordT gs) (keyOk gs) where
  anti s t := by
    by_cases h : keyOk gs s ∧ keyOk gs t
    · rw [ordT_ok h.1 h.2, ordT_ok h.2 h.1]; exact beforeV_anti _ _ _ _
    · rw [ordT_bad h, ordT_bad (fun e => h ⟨e.2, e.1⟩)]; rfl
  range s t := by
    by_cases h : keyOk gs s ∧ keyOk gs t
    · rw [ordT_ok h.1 h.2]; exact beforeV_range _ _ _ _
    · rw [ordT_bad h]; exact .inr (.inl rfl)
  trans s t u hs ht hu h1 h2 := by
    rw [ordT_ok hs ht] at h1
    rw [ordT_ok ht hu] at h2
    rw [ordT_ok hs hu]
    exact beforeV_trans _ _ _ _ _ _ h1 h2
  zero s t hs ht h := by
    rw [ordT_ok hs ht] at h
    exact beforeV_zero h
/-! Which articles are refused. -/
def headB (gs : Grps) (s : ByteArray) : Bool := !decide (s.size = 0) && (decide (s.size ≤ 64) && decide ((readRes gs s).1 = 0))
def lineB (s : ByteArray) : Bool := !decide (s.size = 0) && (decide (s.size ≤ 200) && (bl s).all fun c => decide (32 ≤ c.toNat))
theorem headB_iff {gs : Grps} {s : ByteArray} : headB gs s = true ↔ s.size ≠ 0 ∧ s.size ≤ 64 ∧ keyOk gs s := by
  unfold headB keyOk
  simp [Bool.and_eq_true]
/-- A text that stood ahead. -/
def twiceB : List ByteArray → Bool
  | [] => false
  | s :: l => memB l s || twiceB l
theorem twiceB_iff {l : List ByteArray} : twiceB l = false ↔ l.Nodup := by
  induction l with
  | nil => simp [twiceB]
  | cons s l ih =>
    unfold twiceB
    rw [Bool.or_eq_false_iff, List.nodup_cons, ih]
    refine and_congr ?_ Iff.rfl
    rw [← memB_iff]
    simp
def headsL (L : List Art) : List ByteArray := L.map Art.head
def thereB (L : List Art) (s : ByteArray) : Bool := memB (headsL L) s
theorem thereB_iff {L : List Art} {s : ByteArray} : thereB L s = true ↔ ∃ x ∈ L, x.head = s := by
  unfold thereB headsL
  rw [memB_iff, List.mem_map]
def artE (gs : Grps) (L : List Art) (x : Art) : Int :=
  if wordE x.word ≠ 0 then wordE x.word else
  if headB gs x.head = false then 10 else
  if 16 < x.texts.length ∨ 16 < x.see.length then 12 else
  if x.texts.all lineB = false then 2 else
  if x.see.all (headB gs) = false then 10 else
  if twiceB x.see = true then 6 else
  if thereB L x.head = true then 6 else
  if 1024 ≤ L.length then 4 else 0
/-- An article that can stand in a dictionary. -/
structure GoodA (gs : Grps) (x : Art) : Prop where
  ok : ArtOk x
  word : wordE x.word = 0
  head : headB gs x.head = true
  texts : x.texts.length ≤ 16 ∧ x.texts.all lineB = true
  see : x.see.length ≤ 16 ∧ x.see.all (headB gs) = true ∧ x.see.Nodup
/-- The articles of a dictionary, in order. -/
structure GoodD (gs : Grps) (L : List Art) : Prop where
  sorted : SortedT (ordT gs) (headsL L)
  arts : ∀ x ∈ L, GoodA gs x
  len : L.length ≤ 1024
theorem goodD_nil (gs : Grps) : GoodD gs [] := ⟨List.Pairwise.nil, by simp, by simp⟩
theorem GoodA.key {gs : Grps} {x : Art} (h : GoodA gs x) : keyOk gs x.head := (headB_iff.1 h.head).2.2
theorem GoodA.size {gs : Grps} {x : Art} (h : GoodA gs x) : x.head.size ≤ 64 := (headB_iff.1 h.head).2.1
theorem GoodD.keys {gs : Grps} {L : List Art} (h : GoodD gs L) : ∀ s ∈ headsL L, keyOk gs s := fun s hs => by
  obtain ⟨x, hx, rfl⟩ := List.mem_map.1 hs
  exact (h.arts x hx).key
theorem GoodD.nodup {gs : Grps} {L : List Art} (h : GoodD gs L) : (headsL L).Nodup := h.sorted.nodup (goodO gs)
theorem GoodD.inj {gs : Grps} {L : List Art} (h : GoodD gs L) {x y : Art} (hx : x ∈ L) (hy : y ∈ L) (e : x.head = y.head) : x = y := by
  have hn := h.nodup
  clear h
  induction L with
  | nil => cases hx
  | cons z L ih =>
    unfold headsL at hn
    rw [List.map_cons, List.nodup_cons] at hn
    rcases List.mem_cons.1 hx with e1 | hx1
    · rcases List.mem_cons.1 hy with e2 | hy1
      · rw [e1, e2]
      · exact absurd (List.mem_map.2 ⟨y, hy1, by rw [← e, e1]⟩) hn.1
    · rcases List.mem_cons.1 hy with e2 | hy1
      · exact absurd (List.mem_map.2 ⟨x, hx1, by rw [e, e2]⟩) hn.1
      · exact ih hx1 hy1 hn.2
/-- The place of a head: how many heads come before a text. -/
def placeT (gs : Grps) (L : List Art) (s : ByteArray) : Nat := (headsL L).countP fun y => decide (ordT gs y s < 0)
def insA (gs : Grps) (x : Art) (L : List Art) : List Art := L.take (placeT gs L x.head) ++ x :: L.drop (placeT gs L x.head)
theorem placeT_le (gs : Grps) (L : List Art) (s : ByteArray) : placeT gs L s ≤ L.length := by
  have := List.countP_le_length (p := fun y => decide (ordT gs y s < 0)) (l := headsL L)
  unfold placeT
  simp only [headsL, List.length_map] at *
  exact this
theorem insA_heads {gs : Grps} {x : Art} {L : List Art} : headsL (insA gs x L) = (headsL L).take (placeT gs L x.head) ++ x.head :: (headsL L).drop (placeT gs L x.head) := by
  unfold insA headsL
  rw [List.map_append, List.map_cons, List.map_take, List.map_drop]
theorem insA_insT {gs : Grps} {x : Art} {L : List Art} (h : GoodD gs L) (hx : keyOk gs x.head) : headsL (insA gs x L) = insT (ordT gs) x.head (headsL L) := by
  have ha := h.sorted.ahead (goodO gs) h.keys hx
  rw [insA_heads]
  unfold placeT insT
  rw [ahead_take ha, ahead_drop ha]
theorem insA_mem {gs : Grps} {x y : Art} {L : List Art} : y ∈ insA gs x L ↔ y = x ∨ y ∈ L := by
  unfold insA
  rw [List.mem_append, List.mem_cons]
  conv => rhs; rw [← List.take_append_drop (placeT gs L x.head) L, List.mem_append]
  constructor
  · rintro (h | h | h)
    · exact .inr (.inl h)
    · exact .inl h
    · exact .inr (.inr h)
  · rintro (h | h | h)
    · exact .inr (.inl h)
    · exact .inl h
    · exact .inr (.inr h)
theorem insA_len {gs : Grps} {x : Art} {L : List Art} : (insA gs x L).length = L.length + 1 := by
  unfold insA
  have := placeT_le gs L x.head
  simp
  omega
theorem artE_good {gs : Grps} {L : List Art} {x : Art} (h : artE gs L x = 0) (hok : ArtOk x) : GoodA gs x ∧ thereB L x.head = false ∧ L.length < 1024 := by
  unfold artE at h
  by_cases h1 : wordE x.word = 0
  · rw [if_neg (by simp [h1])] at h
    by_cases h2 : headB gs x.head = false
    · rw [if_pos h2] at h; omega
    rw [if_neg h2] at h
    by_cases h3 : 16 < x.texts.length ∨ 16 < x.see.length
    · rw [if_pos h3] at h; omega
    rw [if_neg h3] at h
    by_cases h4 : x.texts.all lineB = false
    · rw [if_pos h4] at h; omega
    rw [if_neg h4] at h
    by_cases h5 : x.see.all (headB gs) = false
    · rw [if_pos h5] at h; omega
    rw [if_neg h5] at h
    by_cases h6 : twiceB x.see = true
    · rw [if_pos h6] at h; omega
    rw [if_neg h6] at h
    by_cases h7 : thereB L x.head = true
    · rw [if_pos h7] at h; omega
    rw [if_neg h7] at h
    by_cases h8 : 1024 ≤ L.length
    · rw [if_pos h8] at h; omega
    exact ⟨⟨hok, h1, by simpa using h2, ⟨by omega, by simpa using h4⟩, ⟨by omega, by simpa using h5, twiceB_iff.1 (by simpa using h6)⟩⟩, by simpa using h7, by omega⟩
  · rw [if_pos h1] at h
    exact absurd h h1
theorem GoodD.put {gs : Grps} {L : List Art} {x : Art} (h : GoodD gs L) (hok : ArtOk x) (he : artE gs L x = 0) : GoodD gs (insA gs x L) := by
  obtain ⟨h1, h2, h3⟩ := artE_good he hok
  refine ⟨?_, fun y hy => ?_, by rw [insA_len]; omega⟩
  · rw [insA_insT h h1.key]
    exact insT_sorted (goodO gs) h.sorted h.keys h1.key (fun hm => by
      rw [← memB_iff] at hm
      unfold thereB at h2
      rw [h2] at hm; cases hm)
  · rcases insA_mem.1 hy with rfl | hy
    · exact h1
    · exact h.arts y hy
/-- An article taken out. -/
def delA (s : ByteArray) (L : List Art) : List Art := L.filter fun y => !decide (y.head = s)
theorem delA_heads {s : ByteArray} {L : List Art} : headsL (delA s L) = (headsL L).filter fun y => !decide (y = s) := by
  unfold delA headsL
  rw [List.filter_map]; rfl
theorem GoodD.del {gs : Grps} {L : List Art} {s : ByteArray} (h : GoodD gs L) : GoodD gs (delA s L) := by
  refine ⟨?_, fun x hx => h.arts x (List.mem_filter.1 hx).1, Nat.le_trans (List.length_filter_le _ _) h.len⟩
  rw [delA_heads]
  exact List.Pairwise.sublist List.filter_sublist h.sorted
/-- The article with a head. -/
def getA (L : List Art) (s : ByteArray) : Option Art := L.find? fun x => decide (x.head = s)
theorem getA_some {L : List Art} {s : ByteArray} {x : Art} (h : getA L s = some x) : x ∈ L ∧ x.head = s := by
  have h1 := List.find?_some h
  exact ⟨List.mem_of_find?_eq_some h, by simpa using h1⟩
theorem getA_none {L : List Art} {s : ByteArray} : getA L s = none ↔ thereB L s = false := by
  unfold getA
  rw [List.find?_eq_none]
  constructor
  · intro h
    cases ht : thereB L s with
    | false => rfl
    | true =>
      obtain ⟨x, hx, e⟩ := thereB_iff.1 ht
      exact absurd (decide_eq_true e) (h x hx)
  · intro h x hx e
    rw [thereB_iff.2 ⟨x, hx, of_decide_eq_true e⟩] at h; cases h
theorem getA_mem {gs : Grps} {L : List Art} {x : Art} (h : GoodD gs L) (hx : x ∈ L) : getA L x.head = some x := by
  cases hg : getA L x.head with
  | none => rw [getA_none, ← Bool.not_eq_true, thereB_iff] at hg; exact absurd ⟨x, hx, rfl⟩ hg
  | some y =>
    obtain ⟨h1, h2⟩ := getA_some hg
    rw [h.inj h1 hx h2]
theorem getA_is {L : List Art} {s : ByteArray} : (getA L s).isSome = thereB L s := by
  cases h : getA L s with
  | none => exact (getA_none.1 h).symm
  | some x =>
    obtain ⟨h1, h2⟩ := getA_some h
    exact (thereB_iff.2 ⟨x, h1, h2⟩).symm
end Go.Proofs.YtgkpoopiamicnaaDoor
namespace Go.Proofs.YtgkpoopiamicnaaDoor
open Go.RowKit Go.Maps Go.WideMaps

def heldR (v : Value) : Option (DataW Value × List MemPlace) := some (.held v, [])
abbrev klT (s : ByteArray) : Lit := .string s.data.toList
theorem klT_lit (s : ByteArray) : WideAt.IsKeyLit (klT s) := by first | trivial | rfl | (unfold WideAt.IsKeyLit; trivial)
theorem klT_inj {s t : ByteArray} (h : klT s = klT t) : s = t := by
  injection h with h
  obtain ⟨⟨l⟩⟩ := s; obtain ⟨⟨l'⟩⟩ := t
  simp only at h; rw [h]
/-- A map of n texts; what it holds. -/
def MapH (w : World) (b n : Nat) (f : ByteArray → Option Value) : Prop :=
  ∃ D : DataW Value, w.ownsMap Tryd.prog 9 heldR b n D ∧ Tidy D ∧ Maps.size D = n ∧ ∀ s : ByteArray, has D (klT s) = (f s).isSome ∧ ∀ v, f s = some v → ∀ z, D.atKey (klT s) z = .held v
section
variable {w w' : World} {b n r : Nat} {f : ByteArray → Option Value}
theorem MapH.lt (h : MapH w b n f) : b < w.heap.size := by
  obtain ⟨D, h1, _⟩ := h; exact h1.lt
theorem MapH.made (w : World) : MapH (w.alloc (.map #[] 0)) w.heap.size 0 (fun _ => none) :=
  ⟨.map [], World.ownsMap_made w _ _ _, tidy_empty, rfl, fun s => ⟨rfl, fun v h => by cases h⟩⟩
theorem MapH.kept {row : Option Nat} (h : MapH w b n f) (hg : w.grownBy w' row) (hne : some b ≠ row) : MapH w' b n f := by
  obtain ⟨D, h1, h2⟩ := h; exact ⟨D, h1.kept hg hne, h2⟩
theorem MapH.chgS {S : Nat → Prop} (h : MapH w b n f) (hc : ChgS S w w') (hs : ¬ S b) : MapH w' b n f := by
  have hlt := h.lt
  obtain ⟨D, ⟨es, clock, hb, h1⟩, h2⟩ := h
  exact ⟨D, ⟨es, clock, (hc.block b hlt hs).trans hb, h1⟩, h2⟩
theorem MapH.below (h : MapH w b n f) (hb : Below w.heap.size w w') : MapH w' b n f := h.chgS (ChgS.of_below (S := fun _ => False) hb) (fun h => h)
theorem MapH.drewN (h : MapH w b n f) (k : Nat) : MapH (w.drewN k) b n f := h
theorem MapH.congr {f' : ByteArray → Option Value} (h : MapH w b n f) (he : ∀ s, f s = f' s) : MapH w b n f' := by
  rw [show f' = f from funext fun s => (he s).symm]; exact h
theorem MapH.isMap (h : MapH w b n f) : ∃ es clock, w.heap[b]? = some (.map es clock) := by
  obtain ⟨D, ⟨es, clock, hb, _⟩, _⟩ := h; exact ⟨es, clock, hb⟩
theorem MapH.ne_blk {g : Nat} {t : TypeId} {cs : Array Value} (h : MapH w b n f) (hg : Blk w g t cs) : b ≠ g := fun e => by
  obtain ⟨es, clock, h⟩ := h.isMap
  subst e
  rw [show w.heap[b]? = _ from hg] at h
  cases h
theorem MapH.ne_own {base : Nat} {e : TypeId} {size m : Nat} {v : Value} {xs : List Value} (h : MapH w b n f) (ho : w.ownsRow base e size v m xs) : v.ownBlock ≠ some b := fun e1 => by
  obtain ⟨es, clock, h⟩ := h.isMap
  rcases ho.2 with ⟨rfl, _⟩ | ⟨g, cap, cur, rfl, _, hg, _⟩
  · cases e1
  · injection e1 with e1
    change g = b at e1
    subst e1
    rw [hg] at h
    cases h
theorem MapH.look {T E : TypeId} {z : Value} (h : MapH w b n f) (ht : Tryd.prog.underlying T = some (.map 9 E)) (hz : (zeroValue E).run Tryd.prog w = .ok z w) (s : ByteArray) (hs : s.size ≤ maxLen) :
    (Instr.lookup T (.map (some b)) (.string s) true).run Tryd.prog w = .ok (.tuple #[(f s).getD z, .bool (f s).isSome]) w := by
  obtain ⟨D, h1, _, _, h3⟩ := h
  obtain ⟨v, ps, hrun, hv⟩ := h1.look_ok keyS_ ht hz (show heldR z = _ from rfl) (key_string hs)
  rw [hrun, show has D (.string s.data.toList) = _ from (h3 s).1]
  have hv' : DataW.held v = D.atKey (klT s) (.held z) := congrArg Prod.fst (Option.some.inj hv)
  cases hf : f s with
  | none =>
    rw [atKey_of_not_has (by rw [(h3 s).1, hf]; rfl)] at hv'
    have hv2 := DataW.held.inj hv'
    subst hv2
    simp only [Option.getD_none, Option.isSome_none]
  | some x =>
    rw [(h3 s).2 x hf] at hv'
    have hv2 := DataW.held.inj hv'
    subst hv2
    simp only [Option.getD_some, Option.isSome_some]
theorem MapH.look1 {T E : TypeId} {z : Value} (h : MapH w b n f) (ht : Tryd.prog.underlying T = some (.map 9 E)) (hz : (zeroValue E).run Tryd.prog w = .ok z w) (s : ByteArray) (hs : s.size ≤ maxLen) :
    (Instr.lookup T (.map (some b)) (.string s) false).run Tryd.prog w = .ok ((f s).getD z) w := by
  obtain ⟨D, h1, _, _, h3⟩ := h
  obtain ⟨v, ps, hrun, hv⟩ := h1.lookup keyS_ ht hz (show heldR z = _ from rfl) (key_string hs)
  rw [hrun]
  have hv' : DataW.held v = D.atKey (klT s) (.held z) := congrArg Prod.fst (Option.some.inj hv)
  cases hf : f s with
  | none =>
    rw [atKey_of_not_has (by rw [(h3 s).1, hf]; rfl)] at hv'
    have hv2 := DataW.held.inj hv'
    subst hv2
    simp only [Option.getD_none]
  | some x =>
    rw [(h3 s).2 x hf] at hv'
    have hv2 := DataW.held.inj hv'
    subst hv2
    simp only [Option.getD_some]
theorem MapH.len {T E : TypeId} (h : MapH w b n f) (ht : Tryd.prog.underlying T = some (.map 9 E)) (ty : TypeId) : (Builtin.len_ #[T] ty #[.map (some b)]).run Tryd.prog w = .ok (.int .i64 n) w := by
  obtain ⟨D, h1, _, h2, _⟩ := h
  rw [h1.len ht ty, h2]
theorem exactMap {D : DataW Value} {m : Nat} (h : w.ownsMap Tryd.prog 9 heldR b m D) : w.ownsMap Tryd.prog 9 heldR b (Maps.size D) D := by
  obtain ⟨es, clock, hb, F, hs, rfl⟩ := h
  exact ⟨es, clock, hb, F, by rw [size_eq, length_read]; exact Nat.le_refl _, rfl⟩
theorem MapH.put_ {T E : TypeId} (h : MapH w b n f) (ht : Tryd.prog.underlying T = some (.map 9 E)) (hn : n < maxLen) (s : ByteArray) (hs : s.size ≤ maxLen) (v : Value) :
    ∃ w', (Instr.mapUpdate T (.map (some b)) (.string s) v).run Tryd.prog w = .ok () w' ∧ MapH w' b (if (f s).isSome then n else n + 1) (fun t => if t = s then some v else f t) ∧ w.grownBy w' (some b) := by
  obtain ⟨D, h1, h2, h3, h4⟩ := h
  obtain ⟨w', hrun, r1, r2⟩ := h1.update keyS_ ht hn (key_string hs) (show heldR v = _ from rfl)
  refine ⟨w', hrun, ⟨D.put (klT s) (.held v), ?_, h2.put (klT_lit s) _, ?_, fun t => ?_⟩, r2⟩
  · have hz : Maps.size (D.put (klT s) (.held v)) = if (f s).isSome then n else n + 1 := by rw [size_put h2, (h4 s).1, h3]
    rw [← hz]
    exact exactMap r1
  · rw [size_put h2, (h4 s).1, h3]
  · by_cases e : t = s
    · subst e
      simp only [↓reduceIte]
      exact ⟨has_put_same h2.isMap (klT_lit _) _, fun x hx z => by rw [← Option.some.inj hx]; exact atKey_put_same h2.isMap (klT_lit _) _ _⟩
    · have hne : klT t ≠ klT s := fun h => e (klT_inj h)
      simp only [if_neg e]
      rw [has_put_other hne]
      exact ⟨(h4 t).1, fun x hx z => by rw [atKey_put_other hne]; exact (h4 t).2 x hx z⟩
theorem MapH.del_ {T E : TypeId} (h : MapH w b n f) (ht : Tryd.prog.underlying T = some (.map 9 E)) (s : ByteArray) (hs : s.size ≤ maxLen) (ty : TypeId) :
    ∃ w', (Builtin.delete_ #[T, 9] ty #[.map (some b), .string s]).run Tryd.prog w = .ok (.tuple #[]) w' ∧ MapH w' b (n - if (f s).isSome then 1 else 0) (fun t => if t = s then none else f t) ∧ w.grownBy w' (some b) := by
  obtain ⟨D, h1, h2, h3, h4⟩ := h
  obtain ⟨w', hrun, r1, r2⟩ := h1.drop keyS_ ht (key_string hs) ty
  have hz : Maps.size (D.del (klT s)) = n - if (f s).isSome then 1 else 0 := by
    have := size_del (k := klT s) h2
    rw [(h4 s).1, h3] at this
    omega
  refine ⟨w', hrun, ⟨D.del (klT s), ?_, h2.del _, hz, fun t => ?_⟩, ?_⟩
  · rw [← hz]
    exact exactMap r1
  · by_cases e : t = s
    · subst e
      simp only [↓reduceIte]
      exact ⟨has_del_same, fun x hx z => by cases hx⟩
    · have hne : klT t ≠ klT s := fun h => e (klT_inj h)
      simp only [if_neg e]
      rw [has_del_other hne]
      exact ⟨(h4 t).1, fun x hx z => by rw [atKey_del_other hne]; exact (h4 t).2 x hx z⟩
  · obtain ⟨es, clock, es', clock', hb, rfl⟩ := r2
    exact ⟨rfl, rfl, rfl, by simp [Go.ChangeMaps.setBlock], fun i _ hi => Go.ChangeMaps.heap_setBlock_other hb _ (fun e => hi (by rw [e]))⟩
/-! At the operation. -/
theorem wpList_putH {ops : Array Oper} {rest : List Oper} {o : Oper} {a : Act} {Q : Exit → Act → World → Prop} (hg : o.guard = none) (T E : TypeId) (m x v : Operand) (hop : o.op = Op.mapUpdate T m x v)
    (ht : Tryd.prog.underlying T = some (.map 9 E)) (b n : Nat) (f : ByteArray → Option Value) (hm : a.eval m = .map (some b)) (h : MapH w b n f) (hn : n < maxLen) (s : ByteArray) (hs : s.size ≤ maxLen) (u : Value)
    (hx : a.eval x = .string s) (hv : a.eval v = u)
    (hK : ∀ w', MapH w' b (if (f s).isSome then n else n + 1) (fun t => if t = s then some u else f t) → w.grownBy w' (some b) → wpList Tryd.prog ops Q rest (a.put o.dst undef) w') :
    wpList Tryd.prog ops Q (o :: rest) a w := by
  refine wpList_plain hg fun K' hK' => ?_
  obtain ⟨w', hrun, r1, r2⟩ := h.put_ ht hn s hs u
  unfold Oper.wp
  simp [execOp, hop, hm, hx, hv, hrun, Result.andThen]
  exact hK' _ _ (hK w' r1 r2)
theorem step_putH {ops : Array Oper} {o : Oper} {a : Act} {K : Act → World → Prop} {Q : Exit → Act → World → Prop} {X : Prop} (hg : o.guard = none) (T E : TypeId) (m x v : Operand) (hop : o.op = Op.mapUpdate T m x v)
    (ht : Tryd.prog.underlying T = some (.map 9 E)) (b n : Nat) (f : ByteArray → Option Value) (hm : a.eval m = .map (some b)) (h : MapH w b n f) (hn : n < maxLen) (s : ByteArray) (hs : s.size ≤ maxLen) (u : Value)
    (hx : a.eval x = .string s) (hv : a.eval v = u)
    (hK : ∀ w', MapH w' b (if (f s).isSome then n else n + 1) (fun t => if t = s then some u else f t) → w.grownBy w' (some b) → K (a.put o.dst undef) w') :
    if Region.wanted o (yielded ops a.tmps) = true then Oper.wp Tryd.prog o a w K Q else X := by
  rw [if_pos (by simp [Region.wanted, hg])]
  obtain ⟨w', hrun, r1, r2⟩ := h.put_ ht hn s hs u
  unfold Oper.wp
  simp [execOp, hop, hm, hx, hv, hrun, Result.andThen]
  exact hK w' r1 r2
theorem wpList_delH {ops : Array Oper} {rest : List Oper} {o : Oper} {a : Act} {Q : Exit → Act → World → Prop} (hg : o.guard = none) (T E : TypeId) (m x : Operand)
    (hop : o.op = Op.call { callee := Callee.builtin Builtin.delete, args := #[m, x], argTypes := #[T, 9] })
    (ht : Tryd.prog.underlying T = some (.map 9 E)) (b n : Nat) (f : ByteArray → Option Value) (hm : a.eval m = .map (some b)) (h : MapH w b n f) (s : ByteArray) (hs : s.size ≤ maxLen) (hx : a.eval x = .string s)
    (hK : ∀ w', MapH w' b (n - if (f s).isSome then 1 else 0) (fun t => if t = s then none else f t) → w.grownBy w' (some b) → wpList Tryd.prog ops Q rest (a.put o.dst (.tuple #[])) w') :
    wpList Tryd.prog ops Q (o :: rest) a w := by
  refine wpList_plain hg fun K' hK' => ?_
  obtain ⟨w', hrun, r1, r2⟩ := h.del_ ht s hs o.type
  unfold Oper.wp
  simp [execOp, hop, resolve, invoke, builtin, hm, hx, hrun, Result.andThen]
  exact hK' _ _ (hK w' r1 r2)
/-! 'for s, x := range m': what is still to come. -/
def RangeH (w : World) (b r n : Nat) (f : ByteArray → Option Value) (left : ByteArray → Bool) (cnt : Nat) : Prop :=
  ∃ (D : DataW Value) (lf : Lit → Bool), w.ranges Tryd.prog 9 heldR b r n D lf cnt ∧ Tidy D ∧ Maps.size D = n ∧ (∀ s : ByteArray, has D (klT s) = (f s).isSome ∧ ∀ v, f s = some v → ∀ z, D.atKey (klT s) z = .held v) ∧ (∀ s, lf (klT s) = left s) ∧ ∀ s, left s = true → (f s).isSome = true
theorem RangeH.map {left : ByteArray → Bool} {cnt : Nat} (h : RangeH w b r n f left cnt) : MapH w b n f := by
  obtain ⟨D, lf, h1, h2, h3, h4, _⟩ := h
  exact ⟨D, h1.owns, h2, h3, h4⟩
theorem RangeH.lt {left : ByteArray → Bool} {cnt : Nat} (h : RangeH w b r n f left cnt) : r < w.heap.size := by
  obtain ⟨D, lf, h1, _⟩ := h; exact h1.lt
theorem RangeH.kept {left : ByteArray → Bool} {cnt : Nat} {row : Option Nat} (h : RangeH w b r n f left cnt) (hg : w.grownBy w' row) (hb : some b ≠ row) (hr : some r ≠ row) : RangeH w' b r n f left cnt := by
  obtain ⟨D, lf, h1, h2⟩ := h
  exact ⟨D, lf, h1.kept hg hb hr, h2⟩
theorem RangeH.below {left : ByteArray → Bool} {cnt : Nat} (h : RangeH w b r n f left cnt) (hb : Below w.heap.size w w') : RangeH w' b r n f left cnt :=
  h.kept (row := none) ⟨hb.os, hb.tape, hb.output, hb.size, fun i hi _ => hb.block i hi⟩ (by simp) (by simp)
theorem RangeH.left_eq {left : ByteArray → Bool} {cnt : Nat} (h : RangeH w b r n f left cnt) : w.rangeLeft b r = cnt := by
  obtain ⟨D, lf, h1, _⟩ := h; exact h1.left_eq
theorem wpList_rangeH {ops : Array Oper} {rest : List Oper} {o : Oper} {a : Act} {Q : Exit → Act → World → Prop} (hg : o.guard = none) (T E : TypeId) (m : Operand) (hop : o.op = Op.range T m)
    (ht : Tryd.prog.underlying T = some (.map 9 E)) (b n : Nat) (f : ByteArray → Option Value) (hm : a.eval m = .map (some b)) (h : MapH w b n f)
    (hK : ∀ w', RangeH w' b w.heap.size n f (fun s => (f s).isSome) n → w.grownBy w' none → w'.heap.size = w.heap.size + 1 → wpList Tryd.prog ops Q rest (a.put o.dst (.pointer (some ⟨w.heap.size, 0, none⟩))) w') :
    wpList Tryd.prog ops Q (o :: rest) a w := by
  obtain ⟨D, h1, h2, h3, h4⟩ := h
  refine wpList_range_own w hg m T hop 9 E keyS_ ht heldR b n D hm h1 fun w' r1 r2 r3 => hK w' ⟨D, _, by rw [h3] at r1; exact r1, h2, h3, h4, fun s => (h4 s).1, fun s hs => hs⟩ r2 r3
theorem keyOf_string_inv {key : Value} {kl : Lit} (h : keyOf Tryd.prog 9 key = some kl) : ∃ s : ByteArray, key = .string s ∧ kl = klT s ∧ s.size ≤ maxLen := by
  rw [keyOf_string Tryd.underlying9] at h
  unfold mapKey at h
  rw [Tryd.underlying9] at h
  cases key with
  | string s =>
    simp only at h
    split at h
    · rename_i hs
      injection h with h
      exact ⟨s, rfl, h.symm, hs⟩
    · cases h
  | _ => simp at h
theorem wpList_nextH {ops : Array Oper} {rest : List Oper} {o : Oper} {a : Act} {Q : Exit → Act → World → Prop} (hg : o.guard = none) (it : Operand) (hop : o.op = Op.next it false) (b r n : Nat) (f : ByteArray → Option Value) (left : ByteArray → Bool) (cnt : Nat)
    (hit : a.eval it = .pointer (some ⟨r, 0, none⟩)) (h : RangeH w b r n f left cnt)
    (hDone : (∀ s, left s = false) → wpList Tryd.prog ops Q rest (a.put o.dst (.tuple #[.bool false])) w)
    (hMore : ∀ (s : ByteArray) (v : Value) (w' : World) (cnt' : Nat), s.size ≤ maxLen → left s = true → f s = some v → RangeH w' b r n f (fun t => left t && !decide (t = s)) cnt' → cnt' < cnt →
      w.grownBy w' (some r) → w'.heap.size = w.heap.size → (Instr.entry (.pointer (some ⟨r, 0, none⟩))).run Tryd.prog w' = .ok (.tuple #[.string s, v]) w' → wpList Tryd.prog ops Q rest (a.put o.dst (.tuple #[.bool true, .string s, v])) w') :
    wpList Tryd.prog ops Q (o :: rest) a w := by
  obtain ⟨D, lf, h1, h2, h3, h4, h5, h6⟩ := h
  refine wpList_next_ranges w hg it hop 9 keyS_ heldR Value.string (fun v : Value => v) (fun key kl hk => by obtain ⟨s, rfl, _⟩ := keyOf_string_inv hk; exact ⟨s, rfl⟩) (fun v y _ => ⟨v, rfl⟩) b r n D lf cnt hit h1
    (fun _ hl => hDone fun s => by rw [← h5 s]; exact hl _) (fun s v kl y w' cnt' hk hl hv hat hr hlt hgr hsz hen => ?_)
  obtain ⟨s', e1, rfl, hs⟩ := keyOf_string_inv hk
  injection e1 with e1
  subst e1
  have hls : left s = true := by rw [← h5 s]; exact hl
  obtain ⟨x, hx⟩ := Option.isSome_iff_exists.1 (h6 s hls)
  have e2 : y.1 = .held x := by rw [← hat (.held x)]; exact (h4 s).2 x hx _
  have e3 : DataW.held v = y.1 := congrArg Prod.fst (Option.some.inj hv)
  rw [e2] at e3
  have e4 := DataW.held.inj e3
  subst e4
  refine hMore s v w' cnt' hs hls hx ⟨D, _, hr, h2, h3, h4, fun t => ?_, fun t ht => h6 t (by simp only [Bool.and_eq_true] at ht; exact ht.1)⟩ hlt hgr hsz hen
  rw [h5 t]
  by_cases e : t = s
  · subst e
    rw [WideAt.sameKey_self (klT_lit t)]
    simp only [decide_true]
  · rw [sameKey_ne (fun h => e (klT_inj h))]
    show (left t && !false) = (left t && !decide (t = s))
    rw [decide_eq_false e]
end
end Go.Proofs.YtgkpoopiamicnaaDoor
namespace Go.Proofs.YtgkpoopiamicnaaDoor
open Go.RowKit

set_option maxRecDepth 20000 in
set_option maxHeartbeats 2000000 in
theorem order_any (p : Option Addr) (og : Option (List (List ByteArray))) (s t : ByteArray) (w : World) (hA : AlphO w p og) :
    Calls Tryd.prog 19 #[.pointer p, .string s, .string t] w (OrderPost w (orderRes (readResO og s) (readResO og t) s t)) := by
  have h2 := two_any p og s t w hA
  generalize readResO og s = r1 at h2
  generalize readResO og t = r2 at h2
  clear hA
  by_cases he : errTwo r1 r2 = 0
  · have hO : orderRes r1 r2 s t = (beforeV (keyS r1.2) (keyS r2.2) s t, 0) := by unfold orderRes; rw [if_pos he]
    rw [hO]; clear hO
    have HE := Lib.hid he; clear he
    go_enter Tryd.func19, Tryd.ntmps19
    go_wp2_with fail
    refine h2.mono ?_
    rintro e w1 ⟨A, B, n, m, c, d, xs, ys, s', t', rfl, hr1, hr2, hn, hm, hb, hk⟩
    rw [HE.out]
    obtain ⟨rfl, rfl, rfl, rfl⟩ := hk HE.out
    clear hk h2
    go_wp2_with fail
    refine (before_any A B n m c d _ _ _ _ _ (((hr1.alloc (Nat.le_refl _) _).alloc (by simp) _).more (by simp; omega)) (((hr2.alloc (Nat.le_refl _) _).alloc (by simp) _).more (by simp; omega)) hn hm).mono ?_
    rintro e w2 ⟨rfl, hb2⟩
    go_wp2
    go_ret2
    exact ⟨rfl, ((hb.alloc hb.size _).alloc (by have := hb.size; simp; omega) _).trans (hb2.mono (by have := hb.size; simp; omega))⟩
  · have hO : orderRes r1 r2 s t = (0, errTwo r1 r2) := by unfold orderRes; rw [if_neg he]
    rw [hO]; clear hO
    have heb : (errTwo r1 r2 != 0) = true := by rw [bne_iff_ne]; exact he
    clear he
    go_enter Tryd.func19, Tryd.ntmps19
    go_wp2_with fail
    refine h2.mono ?_
    rintro e w1 ⟨A, B, n, m, c, d, xs, ys, s', t', rfl, hr1, hr2, hn, hm, hb, hk⟩
    clear hk h2
    go_wp2
    go_ret2
    exact ⟨rfl, (hb.alloc hb.size _).alloc (by have := hb.size; simp; omega) _⟩

end Go.Proofs.YtgkpoopiamicnaaDoor
