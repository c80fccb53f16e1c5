/-
  Plain facts of layer 39, for CollateSorts. Conditions: none.
-/
import Derived.Test.YtcdpadggjkobjaaGreatDoorSortP
import Derived.Test.YtcdpadggjkobjaaGreatDoorVals
namespace Go.Proofs.YtcdpadggjkobjaaGreatDoor
open Go.RowKit Go.Lib

theorem filter_range {α : Type} (P : α → Bool) : ∀ (es : List α) (f t : Nat), (∀ (i : Nat) (hi : i < es.length), P es[i] = (decide (f ≤ i) && decide (i < t))) → es.filter P = (es.take t).drop f
  | [], f, t, _ => by simp
  | a :: l, f, t, h => by
    have h0 := h 0 (by simp)
    have ih := filter_range P l (f - 1) (t - 1) (fun i hi => by
      have := h (i + 1) (by simpa using hi)
      simp only [List.getElem_cons_succ] at this
      rw [this]
      congr 1
      · exact decide_eq_decide.2 (by omega)
      · exact decide_eq_decide.2 (by omega))
    simp only [List.getElem_cons_zero] at h0
    rw [List.filter_cons, h0, ih]
    cases t with
    | zero => simp
    | succ t =>
      cases f with
      | zero => simp
      | succ f => simp
theorem readRes_empty {gs : List (List ByteArray)} {s : ByteArray} (h : s.size = 0) : readRes gs s = (0, []) := readRes_some (parse_nil gs h) (by omega)
def goodL (gs : List (List ByteArray)) (ls : List ByteArray) : Prop := ∀ s ∈ ls, (readRes gs s).1 = 0
def gotE (gs : List (List ByteArray)) (ls : List ByteArray) : List Ent := sortE (entsL gs ls)
def gotL (gs : List (List ByteArray)) (ls : List ByteArray) : List ByteArray := textsE (gotE gs ls)
theorem textsE_entsL (gs : List (List ByteArray)) (ls : List ByteArray) : textsE (entsL gs ls) = ls := by
  unfold textsE entsL
  rw [List.map_map]
  exact (List.map_congr_left fun x _ => rfl).trans (List.map_id ls)
theorem gotL_perm (gs : List (List ByteArray)) (ls : List ByteArray) : (gotL gs ls).Perm ls := by
  have := (sortE_perm (entsL gs ls)).map (fun e : Ent => e.2)
  have h2 := textsE_entsL gs ls
  unfold textsE at h2
  rw [h2] at this
  exact this
theorem gotL_length (gs : List (List ByteArray)) (ls : List ByteArray) : (gotL gs ls).length = ls.length := (gotL_perm gs ls).length_eq
theorem gotE_length (gs : List (List ByteArray)) (ls : List ByteArray) : (gotE gs ls).length = ls.length := by unfold gotE; rw [sortE_length, entsL_length]
theorem gotE_ent (gs : List (List ByteArray)) (ls : List ByteArray) {i : Nat} (hi : i < (gotE gs ls).length) : (gotE gs ls)[i] = entOf gs (gotL gs ls)[i]! := by
  have hi' : i < (gotL gs ls).length := by rw [gotL_length, ← gotE_length gs]; exact hi
  rw [getElem!_pos (gotL gs ls) i hi']
  have hm : (gotE gs ls)[i] ∈ entsL gs ls := (sortE_perm _).subset (List.getElem_mem hi)
  obtain ⟨s, _, hs⟩ := List.mem_map.1 hm
  have h2 : (gotL gs ls)[i] = (gotE gs ls)[i].2 := by simp [gotL, textsE]
  rw [h2, ← hs]; rfl
theorem gotE_at (gs : List (List ByteArray)) (ls : List ByteArray) {i : Nat} (hi : i < (gotL gs ls).length) : (gotE gs ls)[i]'(by rw [gotE_length, ← gotL_length gs]; exact hi) = entOf gs (gotL gs ls)[i] := by
  rw [gotE_ent, getElem!_pos (gotL gs ls) i hi]
theorem entsL_gotL (gs : List (List ByteArray)) (ls : List ByteArray) : entsL gs (gotL gs ls) = gotE gs ls := by
  refine List.ext_getElem (by rw [entsL_length, gotL_length, gotE_length]) fun i h1 h2 => ?_
  rw [gotE_at gs ls (by rw [gotL_length, ← gotE_length gs]; exact h2)]
  simp [entsL]
theorem goodL_perm {gs : List (List ByteArray)} {ls ls' : List ByteArray} (h : goodL gs ls) (hp : ls'.Perm ls) : goodL gs ls' := fun s hs => h s (hp.subset hs)
theorem gotE_perm {gs : List (List ByteArray)} {ls ls' : List ByteArray} (hp : ls'.Perm ls) : gotE gs ls' = gotE gs ls := by
  unfold gotE
  exact sortE_unique ((sortE_perm _).trans (hp.map _)) (sortE_sorted _)
theorem sort_good {gs : List (List ByteArray)} {ls : List ByteArray} (h : goodL gs ls) (hl : ls.length ≤ 256) : sortResO (some gs) ls = (0, gotE gs ls) := by
  show sortRes gs ls = _
  rw [sortRes_ok hl (errL_zero.2 h)]; rfl
theorem sortT_good {gs : List (List ByteArray)} {ls : List ByteArray} (h : goodL gs ls) (hl : ls.length ≤ 256) : sortedT (sortResO (some gs) ls) = (0, gotL gs ls) := by rw [sort_good h hl]; rfl
theorem sortT_perm {gs : List (List ByteArray)} {ls ls' : List ByteArray} (h : goodL gs ls) (hl : ls.length ≤ 256) (hp : ls'.Perm ls) : sortedT (sortResO (some gs) ls') = (0, gotL gs ls) := by
  rw [sortT_good (goodL_perm h hp) (by rw [hp.length_eq]; exact hl)]
  unfold gotL; rw [gotE_perm hp]
theorem gotE_le {gs : List (List ByteArray)} {ls : List ByteArray} {i j : Nat} (hij : i ≤ j) (hj : j < (gotL gs ls).length) : befE (entOf gs (gotL gs ls)[i]) (entOf gs (gotL gs ls)[j]) ≤ 0 := by
  rw [← gotE_at gs ls (by omega), ← gotE_at gs ls hj]
  rcases Nat.lt_or_ge i j with h | h
  · exact List.pairwise_iff_getElem.1 (sortE_sorted (entsL gs ls)) i j _ _ h
  · obtain rfl : i = j := by omega
    rw [befE_self]; exact Int.le_refl 0
theorem order_good {gs : List (List ByteArray)} {s t : ByteArray} (hs : (readRes gs s).1 = 0) (ht : (readRes gs t).1 = 0) : orderRes (readRes gs s) (readRes gs t) s t = (befE (entOf gs s) (entOf gs t), 0) := by
  unfold orderRes errTwo
  rw [if_pos hs, ht, if_pos rfl]; rfl
/-- The texts from one to another. -/
theorem betw_good {gs : List (List ByteArray)} {ls : List ByteArray} {p q f t : Nat} (hp : p < (gotL gs ls).length) (hq : q < (gotL gs ls).length) (hf : f < (gotL gs ls).length) (hfe : (gotL gs ls)[f] = (gotL gs ls)[p])
    (hf0 : ∀ j (hj : j < f), (gotL gs ls)[j]'(by omega) ≠ (gotL gs ls)[p]) (ht : t < (gotL gs ls).length) (hte : (gotL gs ls)[t] = (gotL gs ls)[q]) (ht0 : ∀ j (_ : t < j) (hj : j < (gotL gs ls).length), (gotL gs ls)[j] ≠ (gotL gs ls)[q]) :
    textsE (betw (entOf gs (gotL gs ls)[p]) (entOf gs (gotL gs ls)[q]) (gotE gs ls)) = ((gotL gs ls).take (t + 1)).drop f := by
  have hfr : betw (entOf gs (gotL gs ls)[p]) (entOf gs (gotL gs ls)[q]) (gotE gs ls) = ((gotE gs ls).take (t + 1)).drop f := by
    refine filter_range _ _ f (t + 1) (fun i hi => ?_)
    have hi' : i < (gotL gs ls).length := by rw [gotL_length, ← gotE_length gs]; exact hi
    rw [gotE_at gs ls hi']
    congr 1
    · refine decide_eq_decide.2 ⟨fun h => ?_, fun h => ?_⟩
      · rcases Nat.lt_or_ge i f with hlt | hge
        · have h1 := gotE_le (Nat.le_of_lt hlt) hf
          rw [hfe, befE_anti] at h1
          have h0 : befE (entOf gs (gotL gs ls)[p]) (entOf gs (gotL gs ls)[i]) = 0 := by omega
          have he := befE_zero h0
          exact absurd (congrArg Prod.snd he).symm (hf0 i hlt)
        · exact hge
      · have h1 := gotE_le h hi'
        rwa [hfe] at h1
    · refine decide_eq_decide.2 ⟨fun h => ?_, fun h => ?_⟩
      · rcases Nat.lt_or_ge i (t + 1) with hlt | hge
        · exact hlt
        · have h1 := gotE_le (show t ≤ i by omega) hi'
          rw [hte, befE_anti] at h1
          have h0 : befE (entOf gs (gotL gs ls)[i]) (entOf gs (gotL gs ls)[q]) = 0 := by omega
          have he := befE_zero h0
          exact absurd (congrArg Prod.snd he) (ht0 i (by omega) hi')
      · have h1 := gotE_le (show i ≤ t by omega) ht
        rwa [hte] at h1
  rw [hfr]
  unfold gotL textsE
  rw [List.map_drop, List.map_take]
theorem exists_first {x : ByteArray} : ∀ (l : List ByteArray), x ∈ l → ∃ f, ∃ (hf : f < l.length), l[f] = x ∧ ∀ j (hj : j < f), l[j]'(by omega) ≠ x
  | a :: l, h => by
    by_cases e : a = x
    · exact ⟨0, by simp, e, fun j hj => absurd hj (by omega)⟩
    · have hm : x ∈ l := by
        rcases List.mem_cons.1 h with h | h
        · exact absurd h.symm e
        · exact h
      obtain ⟨f, hf, h1, h2⟩ := exists_first l hm
      refine ⟨f + 1, by simpa using hf, h1, fun j hj => ?_⟩
      cases j with
      | zero => exact e
      | succ j => exact h2 j (by omega)
theorem exists_last {x : ByteArray} : ∀ (l : List ByteArray), x ∈ l → ∃ f, ∃ (hf : f < l.length), l[f] = x ∧ ∀ j (_ : f < j) (hj : j < l.length), l[j] ≠ x
  | a :: l, h => by
    by_cases e : x ∈ l
    · obtain ⟨f, hf, h1, h2⟩ := exists_last l e
      refine ⟨f + 1, by simpa using hf, h1, fun j hj hj' => ?_⟩
      cases j with
      | zero => omega
      | succ j => exact h2 j (by omega) (by simpa using hj')
    · have ha : a = x := by
        rcases List.mem_cons.1 h with h | h
        · exact h.symm
        · exact absurd h e
      refine ⟨0, by simp, ha, fun j hj hj' he => ?_⟩
      cases j with
      | zero => omega
      | succ j => exact e (he ▸ List.getElem_mem (by simpa using hj'))
/-- What is known of the sorted texts. -/
structure SrtOk (gs : List (List ByteArray)) (ls L : List ByteArray) : Prop where
  len : L.length = ls.length
  s1 : sortedT (sortResO (some gs) ls) = (0, L)
  s2 : sortedT (sortResO (some gs) L) = (0, L)
  s3 : sortedT (sortResO (some gs) ls.reverse) = (0, L)
  ord : ∀ i (h : i + 1 < L.length), ∃ v : Int, v ≤ 0 ∧ orderRes (readRes gs L[i]) (readRes gs L[i + 1]) L[i] L[i + 1] = (v, 0)
  ss : sortS L = sortS ls
  bet : ∀ p q f t (hp : p < L.length) (hq : q < L.length) (hf : f < L.length) (ht : t < L.length), L[f] = L[p] → (∀ j (hj : j < f), L[j]'(by omega) ≠ L[p]) → L[t] = L[q] → (∀ j (_ : t < j) (hj : j < L.length), L[j] ≠ L[q]) →
    betwRes (sortResO (some gs) ls.reverse) (readRes gs L[p]) (readRes gs L[q]) L[p] L[q] = (0, (L.take (t + 1)).drop f)
theorem srtOk {gs : List (List ByteArray)} {ls : List ByteArray} (h : ∀ s ∈ ls, (readRes gs s).1 = 0) (hl : ls.length ≤ 30) : SrtOk gs ls (gotL gs ls) := by
  have hp := gotL_perm gs ls
  have hg : ∀ s ∈ gotL gs ls, (readRes gs s).1 = 0 := goodL_perm h hp
  refine ⟨gotL_length gs ls, sortT_good h (by omega), sortT_perm h (by omega) hp, sortT_perm h (by omega) (List.reverse_perm ls), fun i hi => ?_, sortS_perm hp, fun p q f t hp' hq hf ht h1 h2 h3 h4 => ?_⟩
  · refine ⟨_, gotE_le (Nat.le_succ i) hi, ?_⟩
    rw [order_good (hg _ (List.getElem_mem _)) (hg _ (List.getElem_mem _))]
  · rw [sort_good (goodL_perm h (List.reverse_perm ls)) (by rw [List.length_reverse]; omega), gotE_perm (List.reverse_perm ls)]
    have e1 := hg _ (List.getElem_mem hp')
    have e2 := hg _ (List.getElem_mem hq)
    rw [betwRes_ok rfl (by unfold errTwo; rw [if_pos e1]; exact e2)]
    rw [← betw_good hp' hq hf h1 h2 ht h3 h4]
    rfl
theorem row_cells {w : World} {base q n c : Nat} {L : List ByteArray} (h : w.ownsRow base 9 1 (.slice (some ⟨q, 0, none⟩) n c) n (strs L)) : ∀ (j : Nat) x, L[j]? = some x → w.cell? ⟨q, j, none⟩ = some (.string x) := by
  intro j x hj
  have hr := Reads.of_own h
  have hl : L.length = n := by have := h.1; simpa [strs] using this
  have hjl : j < n := by rw [← hl]; exact (List.getElem?_eq_some_iff.1 hj).1
  obtain ⟨ad, had, _, hc⟩ := hr.2 (by omega)
  injection had with had
  subst had
  have := hc j (.string x) (by simp [strs, hj])
  rwa [add_at] at this
theorem row_part {w : World} {q n : Nat} {L : List ByteArray} (hl : L.length = n) (hq : q < w.heap.size) (hc : ∀ (j : Nat) x, L[j]? = some x → w.cell? ⟨q, j, none⟩ = some (.string x)) {f t M : Nat} (ht : t ≤ n) (hM : M - f = t - f) :
    ReadS w w.heap.size (some ⟨q, f, none⟩) (M - f) ((L.take t).drop f) := by
  refine ⟨by simp [hl]; omega, fun _ => ⟨_, rfl, hq, fun j u hj => ?_⟩⟩
  rw [List.getElem?_map, List.getElem?_drop, List.getElem?_take] at hj
  split at hj
  · cases hx : L[f + j]? with
    | none => rw [hx] at hj; cases hj
    | some x =>
      rw [hx] at hj
      cases hj
      rw [show (⟨q, f, none⟩ : Addr).add j = ⟨q, f + j, none⟩ by unfold Addr.add; split <;> simp_all]
      exact hc _ _ hx
  · cases hj
end Go.Proofs.YtcdpadggjkobjaaGreatDoor
