/-
  layer 36: the reference's distances in plain words: ways over the points up to k, in place. Conditions: none.
-/
import Derived.Test.YtdelkgfodeilkaaDoorPtV
namespace Go.Proofs.YtdelkgfodeilkaaDoor
open Go.RowKit Go.Lib

/-- One entry of a matrix. -/
def setD (D : Nat → Nat → Int) (i j : Nat) (d : Int) : Nat → Nat → Int := fun u v => if u = i ∧ v = j then d else D u v
theorem setD_same (D : Nat → Nat → Int) (i j : Nat) (d : Int) : setD D i j d i j = d := by unfold setD; rw [if_pos ⟨rfl, rfl⟩]
theorem setD_other {D : Nat → Nat → Int} {i j u v : Nat} {d : Int} (h : ¬ (u = i ∧ v = j)) : setD D i j d u v = D u v := by unfold setD; rw [if_neg h]
def zeroD : Nat → Nat → Int := fun u v => if u = v then 0 else -1
def roadD (D : Nat → Nat → Int) (x : Rd) : Nat → Nat → Int := setD (setD D x.1.toNat x.2.1.toNat x.2.2) x.2.1.toNat x.1.toNat x.2.2
def roadsD (roads : List Rd) : Nat → Nat → Int := roads.foldl roadD zeroD
theorem roadsD_snoc (roads : List Rd) (x : Rd) : roadsD (roads ++ [x]) = roadD (roadsD roads) x := by simp [roadsD]
theorem roadsD_get {n : Nat} (roads : List Rd) : (∀ x ∈ roads, Okr n x) → Apart2 roads → ∀ u v, (∀ x ∈ roads, ∀ l, isRoad x u v l → roadsD roads u v = l) ∧ ((∀ x ∈ roads, ∀ l, ¬ isRoad x u v l) → roadsD roads u v = zeroD u v) := by
  refine list_rev_ind (p := fun roads => (∀ x ∈ roads, Okr n x) → Apart2 roads → ∀ u v, (∀ x ∈ roads, ∀ l, isRoad x u v l → roadsD roads u v = l) ∧ ((∀ x ∈ roads, ∀ l, ¬ isRoad x u v l) → roadsD roads u v = zeroD u v)) ?_ ?_ roads
  · intro _ _ u v
    exact ⟨(fun x hx => by cases hx), fun _ => rfl⟩
  · intro roads x ih h hp u v
    have hr : ∀ y ∈ roads, Okr n y := fun y hy => h y (by simp [hy])
    unfold Apart2 at hp
    rw [List.pairwise_append] at hp
    obtain ⟨i1, i2⟩ := ih hr hp.1 u v
    obtain ⟨a0, a1, b0, b1, ne, l0, l1⟩ := h x (by simp)
    rw [roadsD_snoc]
    have hget : roadD (roadsD roads) x u v = if (x.1 = u ∧ x.2.1 = v) ∨ (x.1 = v ∧ x.2.1 = u) then x.2.2 else roadsD roads u v := by
      unfold roadD setD
      by_cases h1 : (x.1 = u ∧ x.2.1 = v) ∨ (x.1 = v ∧ x.2.1 = u)
      · rw [if_pos h1]
        rcases h1 with h1 | h1
        · rw [if_neg (by omega), if_pos (by omega)]
        · rw [if_pos (by omega)]
      · rw [if_neg h1, if_neg (by omega), if_neg (by omega)]
    rw [hget]
    refine ⟨fun y hy l hr' => ?_, fun hno => ?_⟩
    · rcases List.mem_append.1 hy with hy | hy
      · have h1 := hp.2.2 y hy x (by simp)
        unfold sameRoad at h1
        rw [Bool.or_eq_false_iff, Bool.and_eq_false_iff, Bool.and_eq_false_iff, beq_eq_false_iff_ne, beq_eq_false_iff_ne, beq_eq_false_iff_ne, beq_eq_false_iff_ne] at h1
        rw [if_neg, i1 y hy l hr']
        unfold isRoad at hr'
        omega
      · obtain rfl := List.mem_singleton.1 hy
        unfold isRoad at hr'
        rw [if_pos (by omega)]; omega
    · have h1 := hno x (by simp) x.2.2
      unfold isRoad at h1
      rw [if_neg (by simpa using h1)]
      exact i2 fun y hy l hr' => hno y (by simp [hy]) l hr'
/-- Ways over the points below k. -/
def floydD (D0 : Nat → Nat → Int) : Nat → Nat → Nat → Int
  | 0 => D0
  | k + 1 => fun i => better (floydD D0 k) k i
def mixed (D : Nat → Nat → Int) (k i j : Nat) : Nat → Nat → Int := fun u v => if u < i ∨ (u = i ∧ v < j) then better D k u v else D u v
theorem mixed_k1 {D : Nat → Nat → Int} {k : Nat} (h : D k k = 0) (i j u : Nat) : mixed D k i j u k = D u k := by unfold mixed; rw [better_k1 h]; split <;> rfl
theorem mixed_k2 {D : Nat → Nat → Int} {k : Nat} (h : D k k = 0) (i j v : Nat) : mixed D k i j k v = D k v := by unfold mixed; rw [better_k2 h]; split <;> rfl
theorem mixed_here (D : Nat → Nat → Int) (k i j : Nat) : mixed D k i j i j = D i j := by unfold mixed; rw [if_neg (by omega)]
theorem mixed_step (D : Nat → Nat → Int) (k i j : Nat) : setD (mixed D k i j) i j (better D k i j) = mixed D k i (j + 1) := by
  funext u v
  unfold setD
  by_cases h : u = i ∧ v = j
  · obtain ⟨rfl, rfl⟩ := h
    rw [if_pos ⟨rfl, rfl⟩]; unfold mixed; rw [if_pos (by omega)]
  · rw [if_neg h]; unfold mixed
    by_cases h1 : u < i ∨ (u = i ∧ v < j)
    · rw [if_pos h1, if_pos (by omega)]
    · rw [if_neg h1, if_neg (by omega)]
theorem mixed_skip {D : Nat → Nat → Int} {k i j : Nat} (h : better D k i j = D i j) : mixed D k i j = mixed D k i (j + 1) := by
  rw [← mixed_step, h]
  funext u v
  unfold setD
  split
  · rename_i h1; obtain ⟨rfl, rfl⟩ := h1; exact mixed_here D k u v
  · rfl
theorem mixed_row {D : Nat → Nat → Int} {k i n : Nat} (u v : Nat) (hv : v < n) : mixed D k i n u v = mixed D k (i + 1) 0 u v := by
  unfold mixed
  by_cases h : u < i ∨ (u = i ∧ v < n)
  · rw [if_pos h, if_pos (by omega)]
  · rw [if_neg h, if_neg (by omega)]
theorem mixed_zero (D : Nat → Nat → Int) (k : Nat) : mixed D k 0 0 = D := by funext u v; unfold mixed; rw [if_neg (by omega)]
theorem mixed_all {D : Nat → Nat → Int} {k n : Nat} (u v : Nat) (hu : u < n) : mixed D k n 0 u v = better D k u v := by unfold mixed; rw [if_pos (by omega)]
section
variable {names : List ByteArray} {roads : List Rd}
theorem floyd_rows (h : newE names roads = 0) : ∀ k i, DistRow (upTo (edgeOf (newM names roads)) k i) i (floydD (roadsD roads) k i) := by
  have hM := good_new h
  have he := edge_new h
  obtain ⟨_, _, _, hok, hap⟩ := newE_zero h
  intro k
  induction k with
  | zero =>
    refine first_row hM.lens (fun i => ?_) (fun i j l hx => ?_) (fun i j hij hx => ?_)
    · show roadsD roads i i = 0
      rw [(roadsD_get roads hok hap i i).2]
      · unfold zeroD; rw [if_pos rfl]
      · intro x hx l hr
        have := (hok x hx).ne
        unfold isRoad at hr; omega
    · obtain ⟨x, hx, hr⟩ := (he i j l).1 hx
      exact (roadsD_get roads hok hap i j).1 x hx l hr
    · show roadsD roads i j = -1
      rw [(roadsD_get roads hok hap i j).2]
      · unfold zeroD; rw [if_neg hij]
      · exact fun x hx' l hr => hx l ((he i j l).2 ⟨x, hx', hr⟩)
  | succ k ih => exact fun i => better_row hM.lens ih i
theorem floyd_end (h : newE names roads = 0) (i v : Nat) : floydD (roadsD roads) names.length i v = distM (newM names roads) i v :=
  ((good_new h).eq (all_row (fun _ _ _ he => ((good_new h).lt he).1) (floyd_rows h names.length i)) v).symm
theorem floyd_bound (h : newE names roads = 0) (k i v : Nat) (hi : i < names.length) : -1 ≤ floydD (roadsD roads) k i v ∧ floydD (roadsD roads) k i v ≤ 137438953472 := by
  have hM := good_new h
  have hr := floyd_rows h k i
  refine ⟨hr.low v, ?_⟩
  by_cases h0 : 0 ≤ floydD (roadsD roads) k i v
  · have h1 := hr.bound (C := 1073741824) (n := names.length) (by decide) (fun u v l he => hM.lens u v l he.1) hi (fun u v l he => (hM.lt he.1).2) h0
    have h2 := hM.few
    have h3 : (names.length : Int) * 1073741824 ≤ 128 * 1073741824 := Int.mul_le_mul_of_nonneg_right (by show (names.length : Int) ≤ 128; have : names.length ≤ 128 := h2; omega) (by decide)
    omega
  · omega
theorem floyd_self (h : newE names roads = 0) (k i : Nat) : floydD (roadsD roads) k i i = 0 := (floyd_rows h k i).self
end
end Go.Proofs.YtdelkgfodeilkaaDoor
