/-
  layer 36: what the map answers, in plain words: distances, ways, areas, the middle. Conditions: what New makes.
-/
import Derived.Test.YtdelkgfodeilkaaDoorPtE
namespace Go.Proofs.YtdelkgfodeilkaaDoor
open Go.RowKit Go.Lib

abbrev Pts.n (M : Pts) : Nat := M.names.length
def inM (M : Pts) (a : Int) : Prop := 0 ≤ a ∧ a < (M.n : Int)
instance (M : Pts) (a : Int) : Decidable (inM M a) := by unfold inM; infer_instance
noncomputable def distS (M : Pts) (a b : Int) : Int × Bool := if inM M a ∧ inM M b then (max (distM M a.toNat b.toNat) 0, decide (0 ≤ distM M a.toNat b.toNat)) else (0, false)
noncomputable def withinL (M : Pts) (a : Nat) (d : Int) : List Nat := (List.range M.n).filter fun b => decide (0 ≤ distM M a b) && decide (distM M a b ≤ d)
noncomputable def withinS (M : Pts) (a d : Int) : List Int := if inM M a then (withinL M a.toNat d).map (fun (x : Nat) => (x : Int)) else []
/-! Areas. -/
noncomputable def firstC (M : Pts) (k b : Nat) : Option Nat := (List.range k).find? fun c => decide (0 ≤ distM M c b)
noncomputable def labK (M : Pts) (k b : Nat) : Int := ((firstC M k b).map fun c => (c : Int)).getD (-1)
noncomputable def labelsS (M : Pts) : List Int := (List.range M.n).map (labK M M.n)
theorem firstC_succ (M : Pts) (k b : Nat) : firstC M (k + 1) b = (firstC M k b).or (if 0 ≤ distM M k b then some k else none) := by
  unfold firstC
  rw [List.range_succ, List.find?_append]
  congr 1
  by_cases h : 0 ≤ distM M k b <;> simp [h]
theorem firstC_some {M : Pts} {k b c : Nat} (h : firstC M k b = some c) : c < k ∧ 0 ≤ distM M c b := by
  unfold firstC at h
  have h1 := List.mem_of_find?_eq_some h
  have h2 := List.find?_some h
  exact ⟨List.mem_range.1 h1, of_decide_eq_true h2⟩
theorem firstC_none {M : Pts} {k b : Nat} (h : firstC M k b = none) {c : Nat} (hc : c < k) : ¬ 0 ≤ distM M c b := by
  unfold firstC at h
  rw [List.find?_eq_none] at h
  simpa using h c (List.mem_range.2 hc)
theorem labK_some {M : Pts} {k b c : Nat} (h : firstC M k b = some c) : labK M k b = c := by unfold labK; rw [h]; rfl
theorem labK_none {M : Pts} {k b : Nat} (h : firstC M k b = none) : labK M k b = -1 := by unfold labK; rw [h]; rfl
theorem labK_zero (M : Pts) (b : Nat) : labK M 0 b = -1 := labK_none (by simp [firstC])
theorem labK_neg {M : Pts} {k b : Nat} : labK M k b < 0 ↔ firstC M k b = none := by
  cases h : firstC M k b with
  | none => rw [labK_none h]; simp
  | some c => rw [labK_some h]; simp
theorem labK_lt {M : Pts} {k b : Nat} : labK M k b < k := by
  cases h : firstC M k b with
  | none => rw [labK_none h]; omega
  | some c => rw [labK_some h]; have := (firstC_some h).1; omega
/-- A point that has its label: nothing is new. -/
theorem labK_skip {M : Pts} (hM : GoodM M) {k : Nat} (h : ¬ labK M k k < 0) (b : Nat) : labK M (k + 1) b = labK M k b := by
  cases hb : firstC M k b with
  | some c => rw [labK_some hb, labK_some (c := c) (by rw [firstC_succ, hb]; rfl)]
  | none =>
    rw [labK_none hb, labK_none]
    rw [firstC_succ, hb, Option.none_or, if_neg]
    intro hd
    rw [labK_neg] at h
    cases hk : firstC M k k with
    | none => exact h hk
    | some c =>
      have h1 := firstC_some hk
      exact firstC_none hb h1.1 (hM.tri h1.2 hd).1
theorem labK_take {M : Pts} (hM : GoodM M) {k : Nat} (h : labK M k k < 0) (b : Nat) : labK M (k + 1) b = if 0 ≤ distM M k b then (k : Int) else labK M k b := by
  rw [labK_neg] at h
  by_cases hd : 0 ≤ distM M k b
  · rw [if_pos hd]
    refine labK_some ?_
    have hb : firstC M k b = none := by
      cases hb : firstC M k b with
      | none => rfl
      | some c =>
        have h1 := firstC_some hb
        have h2 : 0 ≤ distM M b k := by rw [hM.symm]; exact hd
        exact absurd (hM.tri h1.2 h2).1 (firstC_none h h1.1)
    rw [firstC_succ, hb, if_pos hd]; rfl
  · rw [if_neg hd]
    unfold labK
    rw [firstC_succ, if_neg hd, Option.or_none]
theorem labK_own {M : Pts} (hM : GoodM M) {b k : Nat} (h : b < k) : ¬ labK M k b < 0 := by
  rw [labK_neg]
  intro hn
  exact firstC_none hn h (by rw [hM.self]; omega)
/-! Ways. -/
/-- The first road at a point that leads nearer to b. -/
noncomputable def stepM (M : Pts) (b at_ : Nat) : Option (Nat × Int) := (M.near.getD at_ []).find? fun e => distM M b e.1 + e.2 == distM M b at_
noncomputable def wayF (M : Pts) (b : Nat) : Nat → Nat → List Nat
  | 0, at_ => [at_]
  | k + 1, at_ => if at_ = b then [at_] else match stepM M b at_ with
    | some e => at_ :: wayF M b k e.1
    | none => [at_]
noncomputable def wayL (M : Pts) (a b : Nat) : List Nat := if 0 ≤ distM M b a then wayF M b (distM M b a).toNat a else []
noncomputable def wayS (M : Pts) (a b : Int) : List Int := if inM M a ∧ inM M b then (wayL M a.toNat b.toNat).map (fun (x : Nat) => (x : Int)) else []
theorem GoodM.zero {M : Pts} (hM : GoodM M) {b v : Nat} (h : distM M b v = 0) : v = b := by
  rcases (hM.dist b).pred v (by omega) with h1 | ⟨u, l, he, hu, hv⟩
  · exact h1
  · have := (hM.lens u v l he).1; omega
theorem step_some {M : Pts} (hM : GoodM M) {b at_ : Nat} (h0 : 0 ≤ distM M b at_) (hne : at_ ≠ b) (hat : at_ < M.near.length) : ∃ e k, ∃ hk : k < M.near[at_].length, stepM M b at_ = some e ∧ M.near[at_][k] = e ∧ (∀ j (hj : j < k), ¬ distM M b (M.near[at_][j]'(by omega)).1 + (M.near[at_][j]'(by omega)).2 = distM M b at_) ∧
    edgeOf M at_ e.1 e.2 ∧ 0 ≤ distM M b e.1 ∧ distM M b e.1 + e.2 = distM M b at_ ∧ e.1 < M.n ∧ distM M b e.1 < distM M b at_ := by
  obtain ⟨u, l, he, hu, hv⟩ := ((hM.dist b).pred at_ h0).resolve_left hne
  obtain ⟨hat', hmem⟩ := hM.sym _ _ _ he
  have hg : M.near.getD at_ [] = M.near[at_] := by rw [List.getD_eq_getElem?_getD, List.getElem?_eq_getElem hat]; rfl
  cases hf : stepM M b at_ with
  | none =>
    unfold stepM at hf
    rw [List.find?_eq_none, hg] at hf
    have := hf _ hmem
    rw [beq_iff_eq] at this
    exact absurd hv.symm this
  | some e =>
    have hf0 := hf
    unfold stepM at hf
    rw [hg] at hf
    have hs := List.find?_some hf
    rw [beq_iff_eq] at hs
    obtain ⟨hp, pre, post, hsplit, hpre⟩ := List.find?_eq_some_iff_append.1 hf
    have hk : pre.length < M.near[at_].length := by rw [hsplit]; simp
    have hget : M.near[at_][pre.length] = e := by simp only [hsplit]; simp
    have hedge : edgeOf M at_ e.1 e.2 := ⟨hat, by rw [hsplit]; simp⟩
    have hl := hM.lens _ _ _ hedge
    have hs0 := (hM.dist b).step _ _ _ hedge h0
    refine ⟨e, pre.length, hk, rfl, hget, fun j hj => ?_, hedge, hs0.1, hs, (hM.lt hedge).2, by omega⟩
    have hj' : M.near[at_][j]'(by omega) = pre[j] := by simp only [hsplit]; rw [List.getElem_append_left hj]
    rw [hj']
    have := hpre _ (List.getElem_mem hj)
    simpa using this
theorem wayF_more {M : Pts} (hM : GoodM M) {b : Nat} : ∀ (k k' at_ : Nat), 0 ≤ distM M b at_ → at_ < M.near.length → distM M b at_ ≤ k → distM M b at_ ≤ k' → wayF M b k at_ = wayF M b k' at_ := by
  intro k
  induction k with
  | zero =>
    intro k' at_ h0 hat h1 h2
    obtain rfl := hM.zero (show distM M b at_ = 0 by omega)
    cases k' with
    | zero => rfl
    | succ k' => unfold wayF; rw [if_pos rfl]
  | succ k ih =>
    intro k' at_ h0 hat h1 h2
    by_cases e : at_ = b
    · subst e
      cases k' with
      | zero => unfold wayF; rw [if_pos rfl]
      | succ k' => unfold wayF; rw [if_pos rfl, if_pos rfl]
    · obtain ⟨x, i, hi, hs, hx, _, he, hx0, hxe, hxn, hlt⟩ := step_some hM h0 e hat
      cases k' with
      | zero => omega
      | succ k' =>
        unfold wayF
        rw [if_neg e, if_neg e, hs]
        show at_ :: wayF M b k x.1 = at_ :: wayF M b k' x.1
        rw [ih k' x.1 hx0 (by rw [hM.len]; exact hxn) (by omega) (by omega)]
theorem wayF_here (M : Pts) (b k : Nat) : wayF M b k b = [b] := by
  cases k with
  | zero => rfl
  | succ k => unfold wayF; rw [if_pos rfl]
theorem wayF_step {M : Pts} (hM : GoodM M) {b at_ : Nat} {e : Nat × Int} (h0 : 0 ≤ distM M b at_) (hne : at_ ≠ b) (hat : at_ < M.near.length) (hs : stepM M b at_ = some e) : wayF M b (distM M b at_).toNat at_ = at_ :: wayF M b (distM M b e.1).toNat e.1 := by
  obtain ⟨x, i, hi, hs', hx, _, he, hx0, hxe, hxn, hlt⟩ := step_some hM h0 hne hat
  obtain rfl : x = e := Option.some.inj (hs'.symm.trans hs)
  obtain ⟨k, hk⟩ : ∃ k, (distM M b at_).toNat = k + 1 := ⟨(distM M b at_).toNat - 1, by omega⟩
  rw [hk]
  conv => lhs; unfold wayF
  rw [if_neg hne, hs]
  show at_ :: wayF M b k x.1 = _
  rw [wayF_more hM k (distM M b x.1).toNat x.1 hx0 (by rw [hM.len]; exact hxn) (by omega) (by omega)]
/-! The middle. -/
/-- The greatest distance of a point. -/
noncomputable def eccM (M : Pts) (a : Nat) : Int := ((List.range M.n).map (distM M a)).foldl max (-1)
/-- The middle of the first k points, if there is one. -/
noncomputable def midK (M : Pts) : Nat → Int × Int
  | 0 => (-1, 0)
  | k + 1 => if (midK M k).1 < 0 ∨ eccM M k < (midK M k).2 then ((k : Int), eccM M k) else midK M k
def allM (M : Pts) : Prop := ∀ a b, a < M.n → b < M.n → 0 ≤ distM M a b
open Classical in
noncomputable def midS (M : Pts) : Int × Bool := if allM M ∧ 0 < M.n then ((midK M M.n).1, true) else (0, false)
theorem midK_pos (M : Pts) : ∀ k, 0 < k → 0 ≤ (midK M k).1 ∧ (midK M k).1 < k := by
  intro k
  induction k with
  | zero => omega
  | succ k ih =>
    intro _
    unfold midK
    split
    · simp only []; omega
    · rename_i h
      rcases Nat.eq_zero_or_pos k with e | e
      · subst e; exact absurd (.inl (by show (-1 : Int) < 0; decide)) h
      · have := ih e; omega
end Go.Proofs.YtdelkgfodeilkaaDoor
