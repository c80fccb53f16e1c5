/-
  layer 36: what New refuses, and the map that it makes, in plain words. Conditions: none.
-/
import Derived.Test.YtdelkgfodeilkaaDoorPtS
namespace Go.Proofs.YtdelkgfodeilkaaDoor
open Go.RowKit Go.Lib

abbrev Rd := Int × Int × Int
def okByte (c : UInt8) : Bool := (decide (97 ≤ c.toNat) && decide (c.toNat ≤ 122)) || (decide (65 ≤ c.toNat) && decide (c.toNat ≤ 90)) || (decide (48 ≤ c.toNat) && decide (c.toNat ≤ 57)) || decide (c.toNat = 45)
def okName (s : ByteArray) : Bool := decide (0 < s.size) && decide (s.size ≤ 24) && s.data.toList.all okByte
def hasName (seen : List ByteArray) (s : ByteArray) : Bool := seen.any fun t => t.data.toList == s.data.toList
def nameE (seen : List ByteArray) (s : ByteArray) : Int := if okName s = false then 15 else if hasName seen s = true then 6 else 0
def namesE : List ByteArray → List ByteArray → Int
  | _, [] => 0
  | seen, s :: l => if nameE seen s = 0 then namesE (seen ++ [s]) l else nameE seen s
def sameRoad (x y : Rd) : Bool := (y.1 == x.1 && y.2.1 == x.2.1) || (y.1 == x.2.1 && y.2.1 == x.1)
def hasRoad (seen : List Rd) (x : Rd) : Bool := seen.any (sameRoad x)
def roadE (n : Nat) (seen : List Rd) (x : Rd) : Int :=
  if x.1 < 0 ∨ (n : Int) ≤ x.1 ∨ x.2.1 < 0 ∨ (n : Int) ≤ x.2.1 then 3 else if x.1 = x.2.1 then 9 else if x.2.2 < 1 ∨ 1073741824 < x.2.2 then 2 else if hasRoad seen x = true then 6 else 0
def roadsE (n : Nat) : List Rd → List Rd → Int
  | _, [] => 0
  | seen, x :: l => if roadE n seen x = 0 then roadsE n (seen ++ [x]) l else roadE n seen x
/-- The error of New. -/
def newE (names : List ByteArray) (roads : List Rd) : Int :=
  if 128 < names.length ∨ 512 < roads.length then 12 else if namesE [] names = 0 then roadsE names.length [] roads else namesE [] names
theorem names_step (names : List ByteArray) (i : Nat) (hi : i < names.length) : namesE (names.take i) (names.drop i) = if nameE (names.take i) names[i] = 0 then namesE (names.take (i + 1)) (names.drop (i + 1)) else nameE (names.take i) names[i] := by
  rw [List.drop_eq_getElem_cons hi, List.take_succ_eq_append_getElem hi]; rfl
theorem roads_step (n : Nat) (roads : List Rd) (i : Nat) (hi : i < roads.length) : roadsE n (roads.take i) (roads.drop i) = if roadE n (roads.take i) roads[i] = 0 then roadsE n (roads.take (i + 1)) (roads.drop (i + 1)) else roadE n (roads.take i) roads[i] := by
  rw [List.drop_eq_getElem_cons hi, List.take_succ_eq_append_getElem hi]; rfl
/-- The other ends, as the roads come. -/
def addRoad (near : List (List (Nat × Int))) (x : Rd) : List (List (Nat × Int)) := (near.modify x.1.toNat (· ++ [(x.2.1.toNat, x.2.2)])).modify x.2.1.toNat (· ++ [(x.1.toNat, x.2.2)])
def nearU (n : Nat) (roads : List Rd) : List (List (Nat × Int)) := roads.foldl addRoad (List.replicate n [])
def endLe (x y : Nat × Int) : Bool := decide (x.1 ≤ y.1)
def newM (names : List ByteArray) (roads : List Rd) : Pts := ⟨names, roads, (nearU names.length roads).map fun l => l.mergeSort endLe⟩
structure Okr (n : Nat) (x : Rd) : Prop where
  a0 : 0 ≤ x.1
  a1 : x.1 < n
  b0 : 0 ≤ x.2.1
  b1 : x.2.1 < n
  ne : x.1 ≠ x.2.1
  l0 : 1 ≤ x.2.2
  l1 : x.2.2 ≤ 1073741824
theorem roadE_zero {n : Nat} {seen : List Rd} {x : Rd} : roadE n seen x = 0 ↔ Okr n x ∧ hasRoad seen x = false := by
  unfold roadE
  constructor
  · intro h
    split at h
    · omega
    split at h
    · omega
    split at h
    · omega
    split at h
    · omega
    rename_i h1 h2 h3 h4
    exact ⟨⟨by omega, by omega, by omega, by omega, h2, by omega, by omega⟩, by simpa using h4⟩
  · rintro ⟨⟨a0, a1, b0, b1, ne, l0, l1⟩, h⟩
    rw [if_neg (by omega), if_neg ne, if_neg (by omega), if_neg (by simp [h])]
theorem addRoad_len (near : List (List (Nat × Int))) (x : Rd) : (addRoad near x).length = near.length := by simp [addRoad]
theorem nearU_snoc (n : Nat) (roads : List Rd) (x : Rd) : nearU n (roads ++ [x]) = addRoad (nearU n roads) x := by simp [nearU]
theorem foldl_addRoad_len (roads : List Rd) : ∀ near : List (List (Nat × Int)), (roads.foldl addRoad near).length = near.length := by
  induction roads with
  | nil => intro near; rfl
  | cons x l ih => intro near; rw [List.foldl_cons, ih, addRoad_len]
theorem nearU_len (n : Nat) (roads : List Rd) : (nearU n roads).length = n := by unfold nearU; rw [foldl_addRoad_len]; simp
theorem modify_getD {near : List (List (Nat × Int))} {i u : Nat} {f : List (Nat × Int) → List (Nat × Int)} (hi : i < near.length) : (near.modify i f).getD u [] = if u = i then f (near.getD u []) else near.getD u [] := by
  rw [List.getD_eq_getElem?_getD, List.getD_eq_getElem?_getD, List.getElem?_modify]
  by_cases e : u = i
  · subst e; rw [if_pos rfl, List.getElem?_eq_getElem hi]; simp
  · rw [if_neg e]
    cases h : near[u]? with
    | none => rfl
    | some v => simp [Ne.symm e]
theorem addRoad_getD {n : Nat} {near : List (List (Nat × Int))} (hn : near.length = n) {x : Rd} (h : Okr n x) (u : Nat) :
    (addRoad near x).getD u [] = if (u : Int) = x.1 then near.getD u [] ++ [(x.2.1.toNat, x.2.2)] else if (u : Int) = x.2.1 then near.getD u [] ++ [(x.1.toNat, x.2.2)] else near.getD u [] := by
  obtain ⟨a0, a1, b0, b1, ne, l0, l1⟩ := h
  unfold addRoad
  rw [modify_getD (by rw [List.length_modify]; omega), modify_getD (by omega)]
  by_cases h1 : (u : Int) = x.1
  · rw [if_pos h1, if_neg (by omega), if_pos (by omega)]
  · rw [if_neg h1]
    by_cases h2 : (u : Int) = x.2.1
    · rw [if_pos h2, if_pos (by omega), if_neg (by omega)]
    · rw [if_neg h2, if_neg (by omega), if_neg (by omega)]
def isRoad (x : Rd) (u v : Nat) (l : Int) : Prop := (x.1 = u ∧ x.2.1 = v ∧ x.2.2 = l) ∨ (x.1 = v ∧ x.2.1 = u ∧ x.2.2 = l)
theorem list_rev_ind {α : Type} {p : List α → Prop} (h0 : p []) (h1 : ∀ l x, p l → p (l ++ [x])) (l : List α) : p l := by
  rw [← List.reverse_reverse l]
  induction l.reverse with
  | nil => exact h0
  | cons x l ih => rw [List.reverse_cons]; exact h1 _ _ ih
theorem nearU_mem {n : Nat} (roads : List Rd) : (∀ x ∈ roads, Okr n x) → ∀ u v l, (v, l) ∈ (nearU n roads).getD u [] ↔ ∃ x ∈ roads, isRoad x u v l := by
  refine list_rev_ind (p := fun roads => (∀ x ∈ roads, Okr n x) → ∀ u v l, (v, l) ∈ (nearU n roads).getD u [] ↔ ∃ x ∈ roads, isRoad x u v l) ?_ ?_ roads
  · intro _ u v l
    have : (nearU n []).getD u [] = [] := by
      unfold nearU
      rw [List.foldl_nil, List.getD_eq_getElem?_getD, List.getElem?_replicate]
      split <;> rfl
    rw [this]; simp
  · intro roads x ih h u v l
    have ih' := ih (fun y hy => h y (by simp [hy])) u v l
    have hx := h x (by simp)
    have hmem : (∃ y ∈ roads ++ [x], isRoad y u v l) ↔ (∃ y ∈ roads, isRoad y u v l) ∨ isRoad x u v l := by
      constructor
      · rintro ⟨y, hy, hr⟩
        rcases List.mem_append.1 hy with hy | hy
        · exact .inl ⟨y, hy, hr⟩
        · obtain rfl := List.mem_singleton.1 hy; exact .inr hr
      · rintro (⟨y, hy, hr⟩ | hr)
        · exact ⟨y, by simp [hy], hr⟩
        · exact ⟨x, by simp, hr⟩
    rw [nearU_snoc, addRoad_getD (nearU_len n roads) hx, hmem, ← ih']
    obtain ⟨a0, a1, b0, b1, ne, l0, l1⟩ := hx
    unfold isRoad
    split
    · rename_i h1
      rw [List.mem_append, List.mem_singleton, Prod.mk.injEq]
      constructor
      · rintro (h | ⟨rfl, rfl⟩)
        · exact .inl h
        · exact .inr (.inl ⟨by omega, by omega, rfl⟩)
      · rintro (h | ⟨h1, h2, h3⟩ | ⟨h1, h2, h3⟩)
        · exact .inl h
        · exact .inr ⟨by omega, h3.symm⟩
        · omega
    · split
      · rename_i h1 h2
        rw [List.mem_append, List.mem_singleton, Prod.mk.injEq]
        constructor
        · rintro (h | ⟨rfl, rfl⟩)
          · exact .inl h
          · exact .inr (.inr ⟨by omega, by omega, rfl⟩)
        · rintro (h | ⟨h1, h2, h3⟩ | ⟨h1, h2, h3⟩)
          · exact .inl h
          · omega
          · exact .inr ⟨by omega, h3.symm⟩
      · rename_i h1 h2
        constructor
        · exact .inl
        · rintro (h | ⟨h3, _⟩ | ⟨_, h3, _⟩)
          · exact h
          · exact absurd h3.symm h1
          · exact absurd h3.symm h2
/-- Each other end once. -/
def Apart2 (roads : List Rd) : Prop := roads.Pairwise fun x y => sameRoad y x = false
theorem nearU_nodup {n : Nat} (roads : List Rd) : (∀ x ∈ roads, Okr n x) → Apart2 roads → ∀ u, (((nearU n roads).getD u []).map (·.1)).Nodup := by
  refine list_rev_ind (p := fun roads => (∀ x ∈ roads, Okr n x) → Apart2 roads → ∀ u, (((nearU n roads).getD u []).map (·.1)).Nodup) ?_ ?_ roads
  · intro _ _ u
    have : (nearU n []).getD u [] = [] := by
      unfold nearU
      rw [List.foldl_nil, List.getD_eq_getElem?_getD, List.getElem?_replicate]
      split <;> rfl
    rw [this]; exact List.nodup_nil
  · intro roads x ih h hp u
    have hr : ∀ y ∈ roads, Okr n y := fun y hy => h y (by simp [hy])
    unfold Apart2 at hp
    rw [List.pairwise_append] at hp
    have ih' := ih hr hp.1 u
    have hnew := fun y hy => hp.2.2 y hy x (by simp)
    have hx := h x (by simp)
    rw [nearU_snoc, addRoad_getD (nearU_len n roads) hx]
    have key : ∀ v l, (v, l) ∈ (nearU n roads).getD u [] → ¬ ((u : Int) = x.1 ∧ (v : Int) = x.2.1) ∧ ¬ ((u : Int) = x.2.1 ∧ (v : Int) = x.1) := by
      intro v l hm
      obtain ⟨y, hy, hr'⟩ := (nearU_mem roads hr u v l).1 hm
      have h1 := hnew y hy
      unfold sameRoad at h1
      rw [Bool.or_eq_false_iff, Bool.and_eq_false_iff, Bool.and_eq_false_iff, beq_eq_false_iff_ne, beq_eq_false_iff_ne, beq_eq_false_iff_ne, beq_eq_false_iff_ne] at h1
      unfold isRoad at hr'
      omega
    obtain ⟨a0, a1, b0, b1, ne, l0, l1⟩ := hx
    split
    · rename_i h1
      rw [List.map_append, List.nodup_append]
      refine ⟨ih', by simp, ?_⟩
      intro v hv w hw
      obtain ⟨⟨v', l'⟩, hm, rfl⟩ := List.mem_map.1 hv
      have := key v' l' hm
      simp at hw
      subst hw
      simp only [ne_eq]
      omega
    · split
      · rename_i h1 h2
        rw [List.map_append, List.nodup_append]
        refine ⟨ih', by simp, ?_⟩
        intro v hv w hw
        obtain ⟨⟨v', l'⟩, hm, rfl⟩ := List.mem_map.1 hv
        have := key v' l' hm
        simp at hw
        subst hw
        simp only [ne_eq]
        omega
      · exact ih'
theorem roadsE_zero {n : Nat} : ∀ (l seen : List Rd), roadsE n seen l = 0 → (∀ x ∈ l, Okr n x) ∧ Apart2 l ∧ ∀ x ∈ seen, ∀ y ∈ l, sameRoad y x = false := by
  intro l
  induction l with
  | nil => intro seen _; exact ⟨(fun x hx => by cases hx), List.Pairwise.nil, (fun x _ y hy => by cases hy)⟩
  | cons x l ih =>
    intro seen h
    unfold roadsE at h
    by_cases h0 : roadE n seen x = 0
    · rw [if_pos h0] at h
      obtain ⟨h1, h2⟩ := roadE_zero.1 h0
      obtain ⟨i1, i2, i3⟩ := ih _ h
      unfold hasRoad at h2
      rw [List.any_eq_false] at h2
      refine ⟨fun y hy => ?_, ?_, fun s hs y hy => ?_⟩
      · rcases List.mem_cons.1 hy with rfl | hy
        · exact h1
        · exact i1 y hy
      · unfold Apart2
        rw [List.pairwise_cons]
        exact ⟨fun y hy => i3 x (by simp) y hy, i2⟩
      · rcases List.mem_cons.1 hy with rfl | hy
        · simpa using h2 s hs
        · exact i3 s (by simp [hs]) y hy
    · rw [if_neg h0] at h; exact absurd h h0
theorem newE_zero {names : List ByteArray} {roads : List Rd} (h : newE names roads = 0) : names.length ≤ 128 ∧ roads.length ≤ 512 ∧ namesE [] names = 0 ∧ (∀ x ∈ roads, Okr names.length x) ∧ Apart2 roads := by
  unfold newE at h
  split at h
  · omega
  split at h
  · rename_i h1 h2
    obtain ⟨r1, r2, _⟩ := roadsE_zero _ _ h
    exact ⟨by omega, by omega, h2, r1, r2⟩
  · rename_i h1 h2; exact absurd h h2
theorem edge_new {names : List ByteArray} {roads : List Rd} (h : newE names roads = 0) (u v : Nat) (l : Int) : edgeOf (newM names roads) u v l ↔ ∃ x ∈ roads, isRoad x u v l := by
  obtain ⟨_, _, _, hok, _⟩ := newE_zero h
  rw [← nearU_mem roads hok u v l]
  unfold edgeOf newM
  simp only [List.length_map, List.getElem_map]
  constructor
  · rintro ⟨hu, hm⟩
    rw [List.getD_eq_getElem?_getD, List.getElem?_eq_getElem hu]
    exact List.mem_mergeSort.1 hm
  · intro hm
    have hu : u < (nearU names.length roads).length := by
      rcases Nat.lt_or_ge u (nearU names.length roads).length with h1 | h1
      · exact h1
      · rw [List.getD_eq_getElem?_getD, List.getElem?_eq_none h1] at hm; cases hm
    rw [List.getD_eq_getElem?_getD, List.getElem?_eq_getElem hu] at hm
    exact ⟨hu, List.mem_mergeSort.2 hm⟩
theorem sort_strict {l : List (Nat × Int)} (h : (l.map (·.1)).Nodup) : ((l.mergeSort endLe).map (·.1)).Pairwise (· < ·) := by
  have hs : (l.mergeSort endLe).Pairwise fun x y => endLe x y = true := List.pairwise_mergeSort (fun a b c h1 h2 => by unfold endLe at *; rw [decide_eq_true_iff] at *; omega) (fun a b => by unfold endLe; rcases Nat.le_total a.1 b.1 with h | h <;> simp [h]) l
  have hn : ((l.mergeSort endLe).map (·.1)).Nodup := ((List.mergeSort_perm l endLe).map (·.1)).nodup_iff.2 h
  have h1 : ((l.mergeSort endLe).map (·.1)).Pairwise (· ≤ ·) := by rw [List.pairwise_map]; exact hs.imp (fun h => by unfold endLe at h; exact of_decide_eq_true h)
  exact (List.Pairwise.and h1 hn).imp (fun ⟨a, b⟩ => Nat.lt_of_le_of_ne a b)
theorem good_new {names : List ByteArray} {roads : List Rd} (h : newE names roads = 0) : GoodM (newM names roads) := by
  have he := edge_new h
  obtain ⟨hn, _, _, hok, hap⟩ := newE_zero h
  refine ⟨by simp [newM, nearU_len], hn, fun u v l h1 => ?_, fun u v l h1 => ?_, fun u hu => ?_⟩
  · obtain ⟨x, hx, hr⟩ := (he u v l).1 h1
    obtain ⟨a0, a1, b0, b1, ne, l0, l1⟩ := hok x hx
    show v < names.length ∧ _
    unfold isRoad at hr
    omega
  · obtain ⟨x, hx, hr⟩ := (he u v l).1 h1
    exact (he v u l).2 ⟨x, hx, hr.symm⟩
  · have hu' : u < (nearU names.length roads).length := by simpa [newM] using hu
    have := nearU_nodup roads hok hap u
    rw [List.getD_eq_getElem?_getD, List.getElem?_eq_getElem hu'] at this
    simpa [newM] using sort_strict this
end Go.Proofs.YtdelkgfodeilkaaDoor
