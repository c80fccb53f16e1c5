/-
  layer 36: the reference's map in memory; valid, has, Len, Name, Find, Dist of the reference answer as the program's do. Conditions: a map as the reference's New makes it, or nil.
-/
import Derived.Test.YtgimhjkijpcgjaaDoorGaf
import Derived.Test.YtgimhjkijpcgjaaDoorGad
import Derived.Test.YtgimhjkijpcgjaaDoorGae
import Derived.Test.YtgimhjkijpcgjaaDoorShelf4
namespace Go.Proofs.YtgimhjkijpcgjaaDoor
open Go.RowKit Go.Lib

/-- The reference's map: D the square of distances. -/
def RefM (w : World) (g : Nat) (M : Pts) (D : Nat → Nat → Int) : Prop :=
  ∃ base vN vR vD us, Blk w g 122 #[.bool true, vN, vR, vD] ∧ w.ownsRow base 9 1 vN M.n (strs M.names) ∧ w.ownsRow base 71 3 vR M.roads.length (M.roads.flatMap roadV) ∧ SqM base w vD M.n M.n us D
theorem RefM.below {w w' : World} {g : Nat} {M : Pts} {D : Nat → Nat → Int} (h : RefM w g M D) (hb : Below w.heap.size w w') : RefM w' g M D := by
  obtain ⟨base, vN, vR, vD, us, h1, h2, h3, h4⟩ := h
  exact ⟨base, vN, vR, vD, us, h1.below hb h1.lt, own_below h2 hb, own_below h3 hb, h4.later hb⟩
def RefO (w : World) (p : Option Addr) : Option Pts → Prop
  | none => p = none
  | some M => ∃ g, p = some ⟨g, 0, none⟩ ∧ RefM w g M (distM M)
theorem RefO.below {w w' : World} {p : Option Addr} {om : Option Pts} (h : RefO w p om) (hb : Below w.heap.size w w') : RefO w' p om := by
  cases om with
  | none => exact h
  | some M => obtain ⟨g, e, h⟩ := h; exact ⟨g, e, h.below hb⟩
theorem refValid_any (p : Option Addr) (om : Option Pts) (w : World) (h : RefO w p om) : Calls Tryd.prog 76 #[.pointer p] w fun e w' => e = .returned (.bool om.isSome) ∧ w = w' := by
  cases om with
  | none =>
    obtain rfl : p = none := h
    show Calls _ _ _ _ fun e w' => e = .returned (.bool false) ∧ w = w'
    go_enter Tryd.func76, Tryd.ntmps76
    go_wp2
    go_ret
    exact ⟨rfl, rfl⟩
  | some M =>
    obtain ⟨g, rfl, base, vN, vR, vD, us, h1, h2, h3, h4⟩ := h
    have hc := h1.cell 0
    simp only [List.getElem?_toArray, List.getElem?_cons_zero] at hc
    clear h1 h2 h3 h4
    show Calls _ _ _ _ fun e w' => e = .returned (.bool true) ∧ w = w'
    go_enter Tryd.func76, Tryd.ntmps76
    go_wp2
    go_ret
    exact ⟨rfl, rfl⟩
theorem refLen_any (p : Option Addr) (om : Option Pts) (w : World) (h : RefO w p om) : Calls Tryd.prog 59 #[.pointer p] w fun e w' => e = .returned (.int .i64 (lenO om)) ∧ w = w' := by
  have hv := refValid_any p om w h
  cases om with
  | none =>
    rw [show (none : Option Pts).isSome = false from rfl] at hv
    show Calls _ _ _ _ fun e w' => e = .returned (.int .i64 0) ∧ w = w'
    clear h
    go_enter Tryd.func59, Tryd.ntmps59
    go_wp2_with fail
    refine hv.mono ?_
    rintro e w' ⟨rfl, rfl⟩
    go_wp2
    go_ret
    exact ⟨rfl, rfl⟩
  | some M =>
    rw [show (some M : Option Pts).isSome = true from rfl] at hv
    obtain ⟨g, rfl, base, vN, vR, vD, us, h1, h2, h3, h4⟩ := h
    obtain ⟨A, c, rfl, hc1, hc2⟩ := ownsRow_form h2
    have hc := h1.cell 1
    simp only [List.getElem?_toArray, List.getElem?_cons_succ, List.getElem?_cons_zero] at hc
    clear h1 h2 h3 h4
    show Calls _ _ _ _ fun e w' => e = .returned (.int .i64 (M.n : Nat)) ∧ w = w'
    generalize M.n = n at *
    go_enter Tryd.func59, Tryd.ntmps59
    go_wp2_with fail
    refine hv.mono ?_
    rintro e w' ⟨rfl, rfl⟩
    go_wp2
    go_ret
    exact ⟨rfl, rfl⟩
/-- A point that is there: the map, and its number. -/
theorem refIn {w : World} {p : Option Addr} {om : Option Pts} {a : Int} (h : RefO w p om) (ha : inO om a) : ∃ g M, ∃ k : Nat, p = some ⟨g, 0, none⟩ ∧ om = some M ∧ RefM w g M (distM M) ∧ a = k ∧ k < M.n := by
  cases om with
  | none => exact absurd ha.2 (by show ¬ a < ((0 : Nat) : Int); have := ha.1; omega)
  | some M =>
    obtain ⟨g, rfl, h⟩ := h
    have h1 := ha.1; have h2 : a < (M.n : Int) := ha.2
    exact ⟨g, M, a.toNat, rfl, rfl, h, by omega, by omega⟩
theorem nameF_take {l : List ByteArray} {k : Nat} (hk : k < l.length) {s : ByteArray} (h : ∀ i (hi : i < k), ¬ (l[i]'(by omega)).data.toList = s.data.toList) (hs : l[k].data.toList = s.data.toList) : nameF l s = some (k : Int) := by
  have : l.findIdx? (fun x => x.data.toList == s.data.toList) = some k := by
    rw [List.findIdx?_eq_some_iff_getElem]
    exact ⟨hk, by simpa using hs, fun j hj => by simpa using h j hj⟩
  unfold nameF; rw [this]; rfl
theorem nameF_none {l : List ByteArray} {s : ByteArray} (h : ∀ i (hi : i < l.length), ¬ l[i].data.toList = s.data.toList) : nameF l s = none := by
  have : l.findIdx? (fun x => x.data.toList == s.data.toList) = none := by
    rw [List.findIdx?_eq_none_iff]
    intro x hx
    obtain ⟨i, hi, rfl⟩ := List.getElem_of_mem hx
    simpa using h i hi
  unfold nameF; rw [this]; rfl
/-- The cell of the square. -/
theorem RefM.cells {w : World} {g : Nat} {M : Pts} {D : Nat → Nat → Int} (h : RefM w g M D) {i j : Nat} (hi : i < M.n) (hj : j < M.n) : ∃ qD cD u, w.cell? ⟨g, 3, none⟩ = some (.slice (some ⟨qD, 0, none⟩) M.n cD) ∧ w.cell? ⟨qD, i, none⟩ = some (.slice (some ⟨u, 0, none⟩) M.n M.n) ∧ w.cell? ⟨u, j, none⟩ = some (.int .i64 (D i j)) := by
  obtain ⟨base, vN, vR, vD, us, h1, h2, h3, h4⟩ := h
  obtain ⟨qD, cD, rfl, _, _⟩ := h4.form (by omega)
  have hc := h1.cell 3
  simp only [List.getElem?_toArray, List.getElem?_cons_succ, List.getElem?_cons_zero] at hc
  exact ⟨qD, cD, us i, hc, h4.rowAt hi, h4.cell hi hj⟩
end Go.Proofs.YtgimhjkijpcgjaaDoor
namespace Go.Proofs.YtgimhjkijpcgjaaDoor
open Go.RowKit Go.Lib

/-! Distances. -/
theorem GoodM.pos {M : Pts} (hM : GoodM M) {a b : Nat} (hne : a ≠ b) (h0 : 0 ≤ distM M a b) : 1 ≤ distM M a b := by
  have : distM M a b ≠ 0 := fun h => hne (hM.zero h).symm
  omega
theorem distS_symm {M : Pts} (hM : GoodM M) (a b : Int) : distS M b a = distS M a b := by
  unfold distS
  rw [hM.symm b.toNat a.toNat]
  by_cases h : inM M a ∧ inM M b
  · rw [if_pos h, if_pos ⟨h.2, h.1⟩]
  · rw [if_neg h, if_neg (fun x => h ⟨x.2, x.1⟩)]
/-! Labels. -/
theorem firstC_self {M : Pts} (hM : GoodM M) {b k : Nat} (h : b < k) : ∃ c, firstC M k b = some c := by
  cases hf : firstC M k b with
  | some c => exact ⟨c, rfl⟩
  | none => exact absurd (show (0 : Int) ≤ distM M b b by rw [hM.self]; exact Int.le_refl _) (firstC_none hf h)
theorem joined_iff {M : Pts} (hM : GoodM M) {a b : Nat} (h : 0 ≤ distM M a b) (c : Nat) : 0 ≤ distM M c a ↔ 0 ≤ distM M c b :=
  ⟨fun h1 => (hM.tri h1 h).1, fun h1 => (hM.tri h1 (by rw [hM.symm]; exact h)).1⟩
theorem lab_eq {M : Pts} (hM : GoodM M) {a b k : Nat} (ha : a < k) (hb : b < k) : labK M k a = labK M k b ↔ 0 ≤ distM M a b := by
  constructor
  · intro h
    obtain ⟨c, hc⟩ := firstC_self hM ha
    obtain ⟨d, hd⟩ := firstC_self hM hb
    rw [labK_some hc, labK_some hd] at h
    have e : c = d := by omega
    subst e
    have h1 := (firstC_some hc).2
    have h2 := (firstC_some hd).2
    rw [hM.symm] at h1
    exact (hM.tri h1 h2).1
  · intro h
    have : firstC M k a = firstC M k b := by
      unfold firstC
      congr 1
      funext c
      rw [decide_eq_decide]
      exact joined_iff hM h c
    unfold labK
    rw [this]
theorem lab_zero {M : Pts} (hM : GoodM M) {a k : Nat} (ha : a < k) : labK M k a = 0 ↔ 0 ≤ distM M 0 a := by
  have h0 : 0 < k := by omega
  have h00 : labK M k 0 = 0 := by
    have hf : firstC M k 0 = some 0 := by
      obtain ⟨m, rfl⟩ : ∃ m, k = m + 1 := ⟨k - 1, by omega⟩
      unfold firstC
      rw [List.range_succ_eq_map, List.find?_cons, decide_eq_true (show (0 : Int) ≤ distM M 0 0 by rw [hM.self]; exact Int.le_refl _)]
    rw [labK_some hf]; rfl
  have h1 := lab_eq hM h0 ha
  rw [h00] at h1
  rw [← h1, eq_comm]
theorem labelsS_len (M : Pts) : (labelsS M).length = M.n := by simp [labelsS]
theorem labelsS_get {M : Pts} {a : Nat} (h : a < M.n) : (labelsS M)[a]? = some (labK M M.n a) := by simp [labelsS, h]
theorem all_iff {M : Pts} (hM : GoodM M) (hn : 0 < M.n) : allM M ↔ ∀ a, a < M.n → labK M M.n a = 0 := by
  constructor
  · intro h a ha
    exact (lab_zero hM ha).2 (h 0 a hn ha)
  · intro h a b ha hb
    have h1 := (lab_zero hM ha).1 (h a ha)
    have h2 := (lab_zero hM hb).1 (h b hb)
    rw [hM.symm] at h1
    exact (hM.tri h1 h2).1
/-! The points within a distance. -/
theorem withinL_mem {M : Pts} {a b : Nat} {d : Int} : b ∈ withinL M a d ↔ b < M.n ∧ 0 ≤ distM M a b ∧ distM M a b ≤ d := by
  unfold withinL
  rw [List.mem_filter, List.mem_range, Bool.and_eq_true, decide_eq_true_iff, decide_eq_true_iff]
theorem withinL_sorted (M : Pts) (a : Nat) (d : Int) : (withinL M a d).Pairwise (· < ·) := List.Pairwise.filter _ List.pairwise_lt_range
/-! The middle. -/
theorem foldl_max_ge (l : List Int) : ∀ x : Int, x ≤ l.foldl max x := by
  induction l with
  | nil => exact fun x => Int.le_refl _
  | cons y l ih => intro x; exact Int.le_trans (Int.le_max_left x y) (ih (max x y))
theorem foldl_max_two (l : List Int) : ∀ x y : Int, l.foldl max (max x y) = max y (l.foldl max x) := by
  induction l with
  | nil => intro x y; exact Int.max_comm x y
  | cons z l ih => intro x y; rw [List.foldl_cons, List.foldl_cons, show max (max x y) z = max (max x z) y by omega, ih]
/-- The greatest of the first k distances of a point, from 0 up. -/
noncomputable def farK (M : Pts) (a k : Nat) : Int := ((List.range k).map fun b => max (distM M a b) 0).foldl max 0
theorem farK_zero (M : Pts) (a : Nat) : farK M a 0 = 0 := rfl
theorem farK_succ (M : Pts) (a k : Nat) : farK M a (k + 1) = max (farK M a k) (max (distM M a k) 0) := by
  unfold farK
  rw [List.range_succ, List.map_append, List.foldl_append]; rfl
theorem farK_low (M : Pts) (a k : Nat) : 0 ≤ farK M a k := foldl_max_ge _ 0
theorem farK_ecc {M : Pts} (ha : allM M) {a : Nat} (h : a < M.n) : farK M a M.n = eccM M a := by
  have h1 : ∀ k, k ≤ M.n → 0 < k → farK M a k = ((List.range k).map (distM M a)).foldl max (-1) := by
    intro k
    induction k with
    | zero => intro _ h0; omega
    | succ k ih =>
      intro hk _
      have hd := ha a k h (by omega)
      rw [farK_succ, List.range_succ, List.map_append, List.foldl_append]
      show _ = max (List.foldl max (-1) (List.map (distM M a) (List.range k))) (distM M a k)
      rcases Nat.eq_zero_or_pos k with e | e
      · subst e
        rw [farK_zero]
        show max 0 (max (distM M a 0) 0) = max (-1) (distM M a 0)
        omega
      · rw [← ih (by omega) e]; have := farK_low M a k; omega
  exact h1 M.n (Nat.le_refl _) (by omega)
theorem midK_best (M : Pts) : ∀ k, 0 < k → ∃ b : Nat, b < k ∧ (midK M k).1 = b ∧ (midK M k).2 = eccM M b ∧ (∀ i, i < k → eccM M b ≤ eccM M i) ∧ ∀ i, i < b → eccM M b < eccM M i := by
  intro k
  induction k with
  | zero => omega
  | succ k ih =>
    intro _
    rcases Nat.eq_zero_or_pos k with e | e
    · subst e
      refine ⟨0, by omega, ?_, ?_, fun i hi => ?_, fun i hi => by omega⟩
      · unfold midK; rw [if_pos (.inl (by show (-1 : Int) < 0; decide))]
      · unfold midK; rw [if_pos (.inl (by show (-1 : Int) < 0; decide))]
      · obtain rfl : i = 0 := by omega
        exact Int.le_refl _
    · obtain ⟨b, hb, e1, e2, h1, h2⟩ := ih e
      by_cases hc : eccM M k < eccM M b
      · have hp : (midK M k).1 < 0 ∨ eccM M k < (midK M k).2 := .inr (by rw [e2]; exact hc)
        refine ⟨k, by omega, ?_, ?_, fun i hi => ?_, fun i hi => ?_⟩
        · unfold midK; rw [if_pos hp]
        · unfold midK; rw [if_pos hp]
        · by_cases e : i = k
          · subst e; exact Int.le_refl _
          · have := h1 i (by omega); omega
        · have := h1 i (by omega); omega
      · have hp : ¬ ((midK M k).1 < 0 ∨ eccM M k < (midK M k).2) := by rw [e1, e2]; omega
        refine ⟨b, by omega, ?_, ?_, fun i hi => ?_, h2⟩
        · unfold midK; rw [if_neg hp]; exact e1
        · unfold midK; rw [if_neg hp]; exact e2
        · by_cases e : i = k
          · subst e; omega
          · exact h1 i (by omega)
/-! More roads. -/
theorem DistRow.more {E E' : Gr} {C : Int} (hl : Lens E C) (hs : ∀ u v l, E u v l → E' u v l) {a : Nat} {r r' : Nat → Int} (h : DistRow E a r) (h' : DistRow E' a r') : ∀ (k : Nat) (v : Nat), 0 ≤ r v → r v ≤ k → 0 ≤ r' v ∧ r' v ≤ r v := by
  intro k
  induction k with
  | zero =>
    intro v h0 h1
    rcases h.pred v h0 with rfl | ⟨u, l, he, hu, hv⟩
    · rw [h.self, h'.self]; omega
    · have := (hl u v l he).1; omega
  | succ k ih =>
    intro v h0 h1
    rcases h.pred v h0 with rfl | ⟨u, l, he, hu, hv⟩
    · rw [h.self, h'.self]; omega
    · have hl1 := (hl u v l he).1
      obtain ⟨h2, h3⟩ := ih u hu (by omega)
      obtain ⟨h4, h5⟩ := h'.step u v l (hs u v l he) h2
      exact ⟨h4, by omega⟩
theorem newE_less {names : List ByteArray} {roads : List Rd} {x : Rd} (h : newE names (roads ++ [x]) = 0) : newE names roads = 0 ∧ Okr names.length x := by
  obtain ⟨h1, h2, h3, h4, h5⟩ := newE_zero h
  rw [List.length_append, List.length_singleton] at h2
  refine ⟨?_, h4 x (by simp)⟩
  unfold newE at h ⊢
  rw [if_neg (by rw [List.length_append, List.length_singleton]; omega), if_pos h3] at h
  rw [if_neg (by omega), if_pos h3]
  have key : ∀ (l seen : List Rd), roadsE names.length seen (l ++ [x]) = 0 → roadsE names.length seen l = 0 := by
    intro l
    induction l with
    | nil => intro _ _; rfl
    | cons y l ih =>
      intro seen he
      unfold roadsE at he ⊢
      rw [List.cons_append] at he
      by_cases e0 : roadE names.length seen y = 0
      · rw [if_pos e0]
        simp only [e0, if_true] at he
        exact ih _ he
      · simp only [e0, if_false] at he
  exact key roads [] h
theorem dist_more {names : List ByteArray} {roads : List Rd} {x : Rd} (h : newE names (roads ++ [x]) = 0) {a b : Nat} (h0 : 0 ≤ distM (newM names roads) a b) : 0 ≤ distM (newM names (roads ++ [x])) a b ∧ distM (newM names (roads ++ [x])) a b ≤ distM (newM names roads) a b := by
  have h1 := (newE_less h).1
  refine DistRow.more (good_new h1).lens (fun u v l he => ?_) ((good_new h1).dist a) ((good_new h).dist a) (distM (newM names roads) a b).toNat b h0 (by omega)
  obtain ⟨y, hy, hr⟩ := (edge_new h1 u v l).1 he
  exact (edge_new h u v l).2 ⟨y, by simp [hy], hr⟩
theorem dist_over {names : List ByteArray} {roads : List Rd} {x : Rd} (h : newE names roads = 0) (hx : x ∈ roads) : 0 ≤ distM (newM names roads) x.1.toNat x.2.1.toNat ∧ distM (newM names roads) x.1.toNat x.2.1.toNat ≤ x.2.2 := by
  obtain ⟨_, _, _, hok, _⟩ := newE_zero h
  obtain ⟨a0, a1, b0, b1, ne, l0, l1⟩ := hok x hx
  have hM := good_new h
  have he : edgeOf (newM names roads) x.1.toNat x.2.1.toNat x.2.2 := (edge_new h _ _ _).2 ⟨x, hx, .inl ⟨by omega, by omega, rfl⟩⟩
  have := (hM.dist x.1.toNat).step _ _ _ he (by rw [(hM.dist x.1.toNat).self]; exact Int.le_refl _)
  rw [(hM.dist x.1.toNat).self] at this
  omega
/-! How many roads are at a point. -/
def touches (a : Nat) (x : Rd) : Bool := decide (x.1 = (a : Int)) || decide (x.2.1 = (a : Int))
theorem nearU_count {n : Nat} (a : Nat) (roads : List Rd) : (∀ x ∈ roads, Okr n x) → ((nearU n roads).getD a []).length = (roads.filter (touches a)).length := by
  refine list_rev_ind (p := fun roads => (∀ x ∈ roads, Okr n x) → ((nearU n roads).getD a []).length = (roads.filter (touches a)).length) ?_ ?_ roads
  · intro _
    have : (nearU n []).getD a [] = [] := by
      unfold nearU
      rw [List.foldl_nil, List.getD_eq_getElem?_getD, List.getElem?_replicate]
      split <;> rfl
    rw [this]; rfl
  · intro l x ih hok
    have hx := hok x (by simp)
    have ih' := ih (fun y hy => hok y (by simp [hy]))
    rw [nearU_snoc, addRoad_getD (nearU_len n l) hx, List.filter_append, List.length_append, ← ih']
    obtain ⟨a0, a1, b0, b1, ne, l0, l1⟩ := hx
    by_cases e1 : (a : Int) = x.1
    · rw [if_pos e1, List.length_append]
      have : touches a x = true := by unfold touches; simp [e1]
      rw [List.filter_cons_of_pos this]; rfl
    · rw [if_neg e1]
      by_cases e2 : (a : Int) = x.2.1
      · rw [if_pos e2, List.length_append]
        have : touches a x = true := by unfold touches; simp [e2]
        rw [List.filter_cons_of_pos this]; rfl
      · rw [if_neg e2]
        have : touches a x = false := by
          unfold touches
          rw [decide_eq_false (fun h => e1 h.symm), decide_eq_false (fun h => e2 h.symm)]; rfl
        rw [List.filter_cons_of_neg (by rw [this]; decide)]; rfl
end Go.Proofs.YtgimhjkijpcgjaaDoor
namespace Go.Proofs.YtgimhjkijpcgjaaDoor
open Go.RowKit Go.Lib

def nearO : Option Pts → List (List (Nat × Int))
  | none => []
  | some M => M.near
def nearL (om : Option Pts) (a : Int) : List Int := if 0 ≤ a ∧ a < (lenO om : Nat) then ((nearO om).getD a.toNat []).map (fun e => (e.1 : Int)) else []
def GivesI (w : World) (xs : List Int) (e : Ending) (w' : World) : Prop := ∃ v, e = .returned v ∧ w'.ownsRow w.heap.size 3 1 v xs.length (xs.map (Value.int .i64)) ∧ Below w.heap.size w w'
theorem own_empty3 (w : World) (t : TypeId) : (w.alloc (.cells #[] t)).ownsRow w.heap.size t 3 (.slice (some ⟨w.heap.size, 0, none⟩) 0 0) 0 [] :=
  ⟨rfl, .inr ⟨w.heap.size, 0, #[], rfl, Nat.le_refl _, heap_alloc_new w _, by omega, by omega, by simp, by simp⟩⟩
set_option maxRecDepth 20000 in
set_option maxHeartbeats 1000000 in
theorem cloneR_any (A : Option Addr) (n c : Nat) (xs : List Value) (w : World) (K : Nat) (hr : Reads w K 3 A n xs) (h1 : ∀ u ∈ xs, u.oneCell' = true) (hK : K ≤ w.heap.size) (hn : n ≤ 100000) :
    Calls Tryd.prog 62 #[.slice A n c] w fun e w' => ∃ v, e = .returned v ∧ w'.ownsRow w.heap.size 71 3 v n xs ∧ Below w.heap.size w w' := by
  obtain ⟨i0, hi, hz0, hz1, hz2⟩ := info_parts (show (Tryd.prog.info? 71).map (fun i => (i.zero, i.size, i.bytes)) = some (some (.agg #[.int .i64 0, .int .i64 0, .int .i64 0]), 3, 24) by kernel_rfl)
  have hl := hr.1
  have hnil := fun (W : World) (a : Option Addr) (n c : Nat) => Lib.run_eql_slice_nil (P := Tryd.prog) W 23 71 a n c 0 0 Tryd.underlying23
  rcases A with _ | ad
  · have h0 : n = 0 := by
      rcases Nat.eq_zero_or_pos n with h | h
      · exact h
      · obtain ⟨_, h', _⟩ := hr.2 h; cases h'
    subst h0
    obtain rfl : xs = [] := List.eq_nil_of_length_eq_zero (by omega)
    go_enter Tryd.func62, Tryd.ntmps62
    go_wp2
    go_ret
    exact ⟨_, rfl, World.ownsRow_nil _ _ _ _, Below.refl _ _⟩
  · have hown := own_empty3 w 71
    have hr' := (hr.more hK).alloc (Nat.le_refl _) (.cells #[] 71)
    go_enter Tryd.func62, Tryd.ntmps62
    go_wp2_with (at_builtin; refine wpList_append_any _ rfl _ _ 23 rfl w.heap.size 71 i0 (.agg #[.int .i64 0, .int .i64 0, .int .i64 0]) 3 24 Tryd.underlying23 hi hz0 hz1 hz2 rfl (by decide) _ _ _ rfl hown w.heap.size _ _ _ xs rfl hr' h1 (by unfold maxLen; omega) (by omega) (by simp) ?_; intro v' w1 hown' hgrow _)
    have hb1 : Below w.heap.size w w1 := ((Below.refl _ w).alloc (Nat.le_refl _) _).grown hgrow (by simp) (fun g hg => (hown.lt g hg).1)
    clear hgrow
    go_ret
    exact ⟨_, rfl, by simpa using hown', hb1⟩
def roadsO : Option Pts → List (Int × Int × Int)
  | none => []
  | some M => M.roads
theorem roadsP_any (p : Option Addr) (om : Option Pts) (w : World) (h : MapO w p om) (hN : (roadsO om).length ≤ 100000) : Calls Tryd.prog 45 #[.pointer p] w fun e w' => ∃ v, e = .returned v ∧ w'.ownsRow w.heap.size 71 3 v (roadsO om).length ((roadsO om).flatMap roadV) ∧ Below w.heap.size w w' := by
  cases om with
  | none =>
    obtain rfl : p = none := h
    go_enter Tryd.func45, Tryd.ntmps45
    go_wp2
    go_ret
    exact ⟨_, rfl, World.ownsRow_nil _ _ _ _, Below.refl _ _⟩
  | some M =>
    obtain ⟨g, rfl, base, vN, vR, vE, mb, h1, h2, h3, h4, h5⟩ := h
    obtain ⟨A, c, rfl, hc1, hc2⟩ := ownsRow_form h4
    have hcl := cloneR_any A M.roads.length c (M.roads.flatMap roadV) w w.heap.size (Reads.of_own h4) (fun u hu => by
      obtain ⟨r, _, hr⟩ := List.mem_flatMap.1 hu
      simp only [roadV, List.mem_cons, List.not_mem_nil, or_false] at hr
      rcases hr with rfl | rfl | rfl <;> rfl) (Nat.le_refl _) hN
    have hc := h1.cell 2
    simp only [List.getElem?_toArray, List.getElem?_cons_succ, List.getElem?_cons_zero] at hc
    show Calls _ _ _ _ fun e w' => ∃ v, e = .returned v ∧ w'.ownsRow w.heap.size 71 3 v M.roads.length (M.roads.flatMap roadV) ∧ Below w.heap.size w w'
    clear h1 h2 h3 h4 h5 hN
    generalize M.roads.flatMap roadV = xs at *
    generalize M.roads.length = n at *
    go_enter Tryd.func45, Tryd.ntmps45
    go_wp2_with fail
    refine hcl.mono ?_
    rintro e w1 ⟨v, rfl, ho, hb⟩
    go_wp2
    go_ret
    exact ⟨v, rfl, ho, hb⟩
end Go.Proofs.YtgimhjkijpcgjaaDoor
namespace Go.Proofs.YtgimhjkijpcgjaaDoor
open Go.RowKit Go.Lib

theorem FromM.of_row {w w1 : World} {q N : Nat} {r : Nat → Int} (hq : w.heap.size ≤ q) (h : Blk w1 q 2 (rowA N r).toArray) (hb : Below w.heap.size w w1) :
    FromM w (w1.alloc (.cells #[.slice (some ⟨q, 0, none⟩) N N] 113)) w1.heap.size q N r [] (.slice none 0 0) :=
  ⟨Blk.new w1 _ _, h.alloc _, World.ownsRow_nil _ _ _ _, fun x hx => (by cases hx), hb.alloc hb.size _, hb.size, hq⟩
theorem FromM.later {w wr w' : World} {b q N : Nat} {r : Nat → Int} {op : List Nat} {v : Value} (h : FromM w wr b q N r op v) (hb : Below wr.heap.size wr w') : FromM w w' b q N r op v :=
  ⟨h.box.below hb h.box.lt, h.row.below hb h.row.lt, own_below h.opn hb, h.lt, h.below.trans (hb.mono h.below.size), h.hb, h.hq⟩
/-- The ends that a map of N points can have. -/
abbrev EndN (N : Nat) := {e : Nat × Int // e.1 < N ∧ 1 ≤ e.2 ∧ e.2 ≤ 1073741824}
def encE {N : Nat} (x : EndN N) : List Value := [.int .i64 (x.1.1 : Int), .int .i64 x.1.2]
noncomputable def wayO : Option Pts → Int → Int → List Int
  | none, _, _ => []
  | some M, a, b => wayS M a b
theorem wayO_out {om : Option Pts} {a b : Int} (h : ¬ (inO om a ∧ inO om b)) : wayO om a b = [] := by
  cases om with
  | none => rfl
  | some M => show wayS M a b = _; unfold wayS; exact if_neg h
theorem wayO_in {M : Pts} {a b : Nat} (ha : a < M.names.length) (hb : b < M.names.length) : wayO (some M) a b = (wayL M a b).map (fun (x : Nat) => (x : Int)) := by
  show wayS M a b = _
  unfold wayS
  rw [if_pos ⟨⟨by omega, by show (a : Int) < (M.names.length : Int); omega⟩, ⟨by omega, by show (b : Int) < (M.names.length : Int); omega⟩⟩, Int.toNat_natCast, Int.toNat_natCast]
theorem size_setCell_ (w : World) (p : Addr) (u : Value) : (w.setCell p u).heap.size = w.heap.size := by simp [World.setCell]
theorem nats_eq (l : List Nat) : nats l = (l.map (fun (x : Nat) => (x : Int))).map (Value.int .i64) := by unfold nats; rw [List.map_map]; rfl
end Go.Proofs.YtgimhjkijpcgjaaDoor
