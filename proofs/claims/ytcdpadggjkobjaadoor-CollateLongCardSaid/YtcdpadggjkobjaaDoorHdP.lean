/-
  Plain facts of layer 39, for CollateHeads: a letter alone; sums of counts. Conditions: none.
-/
import Derived.Test.YtcdpadggjkobjaaDoorSortP
import Derived.Test.YtcdpadggjkobjaaDoorChains
namespace Go.Proofs.YtcdpadggjkobjaaDoor
open Go.RowKit Go.Lib

theorem readRes_letter {gs : List (List ByteArray)} (hG : GoodG gs) {e : ByteArray × Nat} (he : e ∈ ents gs) : readRes gs e.1 = (0, [(e.1, (e.2 : Int))]) := by
  have hsz := hG.size he
  have hl := longest_is hG he (List.prefix_refl (bl e.1)) (fun z _ hp => by have := hp.length_le; rwa [bl_len, bl_len] at this)
  have hp : parse gs e.1 = some [(e.1, (e.2 : Int))] := by
    rw [parse_cons gs (by omega) (by rw [hl]; simp only; omega), hl]
    simp only
    rw [parse_nil gs (by rw [dropB_size]; omega)]
    rfl
  exact readRes_some hp (by omega)
theorem headG_ents {gs : List (List ByteArray)} {g : Nat} (hg : g < gs.length) (hne : gs[g] ≠ []) : (headG gs g, g) ∈ ents gs := by
  rw [mem_ents]
  refine ⟨gs[g], List.getElem?_eq_getElem hg, ?_⟩
  show headG gs g ∈ gs[g]
  have h : headG gs g = (gs[g]).headD ⟨#[]⟩ := by unfold headG; rw [List.getD, List.getElem?_eq_getElem hg]; rfl
  rw [h]
  cases hh : gs[g] with
  | nil => exact absurd hh hne
  | cons x l => simp
theorem rleN_mem {n : Nat} {ks : List Int} {p : Nat × Nat} (h : p ∈ rleN n ks) : p.1 < n ∧ 0 < p.2 ∧ p.2 = ks.count (p.1 : Int) := by
  unfold rleN at h
  obtain ⟨g, hg, hp⟩ := List.mem_filterMap.1 h
  rw [List.mem_range] at hg
  split at hp
  · rename_i h1; injection hp with hp; subst hp; exact ⟨hg, h1, rfl⟩
  · cases hp
theorem rleN_sorted (n : Nat) (ks : List Int) : (rleN n ks).Pairwise fun p q => p.1 < q.1 := by
  unfold rleN
  rw [List.pairwise_filterMap]
  refine List.Pairwise.imp (fun {a b} hab => ?_) (List.pairwise_lt_range (n := n))
  intro p hp q hq
  split at hp
  · injection hp with hp
    split at hq
    · injection hq with hq; subst hp hq; exact hab
    · cases hq
  · cases hp
theorem rleN_sum (n : Nat) (ks : List Int) : (countsL (rleN n ks)).sum + ((ks.filter fun x => !decide (0 ≤ x ∧ x < (n : Int))).length : Int) = ks.length := by
  induction n with
  | zero =>
    have : (ks.filter fun x => !decide (0 ≤ x ∧ x < ((0 : Nat) : Int))) = ks := List.filter_eq_self.2 (fun x _ => by simp; omega)
    rw [this]; simp [rleN, countsL]
  | succ n ih =>
    have e : rleN (n + 1) ks = rleN n ks ++ (if 0 < ks.count (n : Int) then [(n, ks.count (n : Int))] else []) := by
      unfold rleN
      rw [List.range_succ, List.filterMap_append]
      congr 1
      simp only [List.filterMap_cons, List.filterMap_nil]
      split <;> rename_i h <;> split at h <;> simp_all
    have h1 : (countsL (rleN (n + 1) ks)).sum = (countsL (rleN n ks)).sum + (ks.count (n : Int) : Int) := by
      rw [e]
      unfold countsL
      rw [List.map_append, List.sum_append]
      split
      · simp
      · simp; omega
    have h2 : (ks.filter fun x => !decide (0 ≤ x ∧ x < (n : Int))).length = (ks.filter fun x => !decide (0 ≤ x ∧ x < ((n + 1 : Nat) : Int))).length + ks.count (n : Int) := by
      clear ih e h1
      induction ks with
      | nil => rfl
      | cons x ks ih =>
        rw [List.filter_cons, List.filter_cons, List.count_cons]
        by_cases hx : x = (n : Int)
        · subst hx
          rw [if_pos (by simp), if_neg (by simp; omega), List.length_cons]
          simp only [beq_self_eq_true, if_true]; omega
        · rw [if_neg (show ¬ (x == (n : Int)) = true by simpa using hx)]
          by_cases h3 : 0 ≤ x ∧ x < (n : Int)
          · rw [if_neg (by simpa using h3), if_neg (by simp; omega)]; omega
          · rw [if_pos (by rw [decide_eq_false h3]; rfl), if_pos (by rw [decide_eq_false (by omega)]; rfl), List.length_cons, List.length_cons]; omega
    omega
theorem rleN_total {n : Nat} {ks : List Int} (h : ∀ x ∈ ks, 0 ≤ x ∧ x < (n : Int)) : (countsL (rleN n ks)).sum = ks.length := by
  have h1 := rleN_sum n ks
  rw [List.filter_eq_nil_iff.2 (fun x hx => by simpa using h x hx)] at h1
  simpa using h1
/-- How many texts are not empty. -/
def fullN (ls : List ByteArray) : Nat := (ls.filter fun s => !decide (s.size = 0)).length
theorem fullN_snoc (ls : List ByteArray) (s : ByteArray) : fullN (ls ++ [s]) = fullN ls + if s.size = 0 then 0 else 1 := by
  unfold fullN
  rw [List.filter_append, List.length_append]
  congr 1
  by_cases h : s.size = 0
  · rw [if_pos h, List.filter_cons, if_neg (by rw [decide_eq_true h]; decide)]; rfl
  · rw [if_neg h, List.filter_cons, if_pos (by rw [decide_eq_false h]; rfl)]; rfl
theorem readRes_empty {gs : List (List ByteArray)} {s : ByteArray} (h : s.size = 0) : readRes gs s = (0, []) := readRes_some (parse_nil gs h) (by omega)
theorem key_pos {gs : List (List ByteArray)} {s : ByteArray} (h : (readRes gs s).1 = 0) : (keyS (readRes gs s).2 = [] ↔ s.size = 0) := by
  constructor
  · intro hk
    unfold readRes at h hk
    split at h
    · cases h
    · rename_i h0
      rw [if_neg h0] at hk
      cases hp : parse gs s with
      | none => rw [hp] at h; cases h
      | some es =>
        rw [hp] at hk
        have : es = [] := by simpa [keyS] using hk
        subst this
        rw [parse_end hp]; rfl
  · intro h0; rw [readRes_empty h0]; rfl
theorem firsts_full {gs : List (List ByteArray)} {ls : List ByteArray} (h : ∀ s ∈ ls, (readRes gs s).1 = 0) : (firsts (entsL gs ls)).length = fullN ls := by
  induction ls with
  | nil => rfl
  | cons s ls ih =>
    have h1 := ih (fun x hx => h x (by simp [hx]))
    have h2 := key_pos (h s (by simp))
    unfold firsts entsL fullN at h1 ⊢
    rw [List.map_cons, List.filterMap_cons, List.filter_cons]
    by_cases h0 : s.size = 0
    · rw [show (entOf gs s).1.head? = none by show (keyS (readRes gs s).2).head? = none; rw [h2.2 h0]; rfl, if_neg (by simp [h0])]
      exact h1
    · have hk : keyS (readRes gs s).2 ≠ [] := fun e => h0 (h2.1 e)
      obtain ⟨a, l, hal⟩ := List.exists_cons_of_ne_nil hk
      rw [show (entOf gs s).1.head? = some a by show (keyS (readRes gs s).2).head? = some a; rw [hal]; rfl, if_pos (by simp [h0])]
      simp only [List.length_cons]
      rw [h1]
/-- What Heads comes to at texts that can be read. -/
structure HdRes (gs : List (List ByteArray)) (ls : List ByteArray) (R : List (Nat × Nat)) : Prop where
  res : headsResO (some gs) ls = (0, headsL gs R, countsL R)
  lt : ∀ p ∈ R, ∃ h : p.1 < gs.length, gs[p.1] ≠ []
  pos : ∀ p ∈ R, 0 < p.2
  sorted : R.Pairwise fun p q => p.1 < q.1
  sum : (countsL R).sum = fullN ls
theorem hdRes {gs : List (List ByteArray)} {ls : List ByteArray} (h : ∀ s ∈ ls, (readRes gs s).1 = 0) (hl : ls.length ≤ 256) : ∃ R, HdRes gs ls R ∧ R.length ≤ ls.length := by
  have herr : errL gs ls = 0 := errL_zero.2 h
  have hs := sortRes_ok hl herr
  have hp : (firsts (sortE (entsL gs ls))).Perm (firsts (entsL gs ls)) := (sortE_perm _).filterMap _
  have hpl : ∀ x ∈ firsts (entsL gs ls), PlaceOk gs x := fun x hx => by
    obtain ⟨e, he, hh⟩ := List.mem_filterMap.1 hx
    obtain ⟨s, _, rfl⟩ := List.mem_map.1 he
    exact entOf_places (List.mem_of_mem_head? hh)
  refine ⟨rleN gs.length (firsts (sortE (entsL gs ls))), ⟨?_, ?_, ?_, ?_, ?_⟩, ?_⟩
  · show ((sortRes gs ls).1, headsL gs (if (sortRes gs ls).1 = 0 then rleN gs.length (firsts (sortRes gs ls).2) else []), countsL (if (sortRes gs ls).1 = 0 then rleN gs.length (firsts (sortRes gs ls).2) else [])) = _
    rw [hs]; rfl
  · intro p hp'
    obtain ⟨h1, h2, h3⟩ := rleN_mem hp'
    rw [h3] at h2
    obtain ⟨g, hg1, hg2, hg3⟩ := hpl _ (hp.mem_iff.1 (List.count_pos_iff.1 h2))
    obtain rfl : p.1 = g := by omega
    exact ⟨hg2, hg3⟩
  · intro p hp'; exact (rleN_mem hp').2.1
  · exact rleN_sorted _ _
  · rw [rleN_total, hp.length_eq, firsts_full h]
    intro x hx
    obtain ⟨g, hg1, hg2, _⟩ := hpl x (hp.mem_iff.1 hx)
    omega
  · refine Nat.le_trans (rleN_len_le _) ?_
    rw [hp.length_eq]
    refine Nat.le_trans (List.length_filterMap_le _ _) ?_
    rw [entsL_length]; exact Nat.le_refl _
/-- The letters ahead of the first one of a group are of groups before it. -/
theorem flat_before {gs : List (List ByteArray)} {g : Nat} (hg : g < gs.length) (hne : gs[g] ≠ []) :
    gs.flatten[(gs.take g).flatten.length]? = some (headG gs g) ∧ ∀ j (hj : j < gs.flatten.length), j < (gs.take g).flatten.length → ∃ i, i < g ∧ (gs.flatten[j], i) ∈ ents gs := by
  have hd : gs = gs.take g ++ (gs[g] :: gs.drop (g + 1)) := by rw [← List.drop_eq_getElem_cons hg, List.take_append_drop]
  have hfl : gs.flatten = (gs.take g).flatten ++ (gs[g] ++ (gs.drop (g + 1)).flatten) := by
    conv => lhs; rw [hd]
    rw [List.flatten_append, List.flatten_cons]
  constructor
  · rw [hfl, List.getElem?_append_right (Nat.le_refl _), Nat.sub_self]
    have h : headG gs g = (gs[g]).headD ⟨#[]⟩ := by unfold headG; rw [List.getD, List.getElem?_eq_getElem hg]; rfl
    rw [h]
    cases hh : gs[g] with
    | nil => exact absurd hh hne
    | cons x l => simp
  · intro j hj hjl
    have e : gs.flatten[j] = (gs.take g).flatten[j] := by
      have : gs.flatten[j]? = ((gs.take g).flatten ++ (gs[g] ++ (gs.drop (g + 1)).flatten))[j]? := by rw [← hfl]
      rw [List.getElem?_append_left hjl, List.getElem?_eq_getElem hj, List.getElem?_eq_getElem hjl] at this
      exact Option.some.inj this
    have hm : gs.flatten[j] ∈ (gs.take g).flatten := by rw [e]; exact List.getElem_mem _
    obtain ⟨l, hl, hx⟩ := List.mem_flatten.1 hm
    obtain ⟨i, hi, rfl⟩ := List.getElem_of_mem hl
    rw [List.length_take] at hi
    rw [List.getElem_take] at hx
    exact ⟨i, by omega, mem_ents.2 ⟨gs[i]'(by omega), List.getElem?_eq_getElem _, hx⟩⟩
end Go.Proofs.YtcdpadggjkobjaaDoor
