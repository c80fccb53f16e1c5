/-
  layer 36: a map of places in memory, as New makes it; Len and has. Conditions: the map lies as New makes it, or is nil.
-/
import Derived.Test.YtgimhjkijpcgjaaDoorGac
import Derived.Test.YtgimhjkijpcgjaaDoorPtP
namespace Go.Proofs.YtgimhjkijpcgjaaDoor
open Go.RowKit Go.Lib

abbrev strs (l : List ByteArray) : List Value := l.map Value.string
/-- A map: the names, the roads, and the other ends at each point. -/
structure Pts where
  names : List ByteArray
  roads : List (Int × Int × Int)
  near : List (List (Nat × Int))
def roadV (r : Int × Int × Int) : List Value := [.int .i64 r.1, .int .i64 r.2.1, .int .i64 r.2.2]
def endV (e : Nat × Int) : List Value := [.int .i64 e.1, .int .i64 e.2]
def nameF (names : List ByteArray) (s : ByteArray) : Option Int := (names.findIdx? (fun x => x.data.toList == s.data.toList)).map fun i => (i : Int)
def NearM (w : World) (base : Nat) (v : Value) (near : List (List (Nat × Int))) : Prop :=
  ∃ vs : List Value, w.ownsRow base 104 1 v near.length vs ∧ vs.length = near.length ∧ ∀ (k : Nat) (hk : k < near.length), ∃ u, vs[k]? = some u ∧ w.ownsRow base 106 2 u near[k].length (near[k].flatMap endV)
theorem NearM.below {w w' : World} {base : Nat} {v : Value} {near : List (List (Nat × Int))} (h : NearM w base v near) (hb : Below w.heap.size w w') : NearM w' base v near := by
  obtain ⟨vs, h1, h2, h3⟩ := h
  refine ⟨vs, own_below h1 hb, h2, fun k hk => ?_⟩
  obtain ⟨u, hu, ho⟩ := h3 k hk
  exact ⟨u, hu, own_below ho hb⟩
/-- The numbers of names; the zero map has none. -/
def NumM (w : World) (v : Value) (names : List ByteArray) : Prop := (∃ mb, v = .map (some mb) ∧ MapSI w mb names.length (nameF names)) ∨ (v = .map none ∧ names = [])
theorem NumM.below {w w' : World} {v : Value} {names : List ByteArray} (h : NumM w v names) (hb : Below w.heap.size w w') : NumM w' v names := by
  rcases h with ⟨mb, e, h⟩ | h
  · exact .inl ⟨mb, e, h.below hb⟩
  · exact .inr h
def MapAt (w : World) (g : Nat) (M : Pts) : Prop :=
  ∃ base vN vR vE vM, Blk w g 61 #[vN, vM, vR, vE] ∧ w.ownsRow base 9 1 vN M.names.length (strs M.names) ∧ NumM w vM M.names ∧
    w.ownsRow base 71 3 vR M.roads.length (M.roads.flatMap roadV) ∧ NearM w base vE M.near
theorem MapAt.below {w w' : World} {g : Nat} {M : Pts} (h : MapAt w g M) (hb : Below w.heap.size w w') : MapAt w' g M := by
  obtain ⟨base, vN, vR, vE, mb, h1, h2, h3, h4, h5⟩ := h
  exact ⟨base, vN, vR, vE, mb, h1.below hb h1.lt, own_below h2 hb, h3.below hb, own_below h4 hb, h5.below hb⟩
def MapO (w : World) (p : Option Addr) : Option Pts → Prop
  | none => p = none
  | some M => ∃ g, p = some ⟨g, 0, none⟩ ∧ MapAt w g M
theorem MapO.below {w w' : World} {p : Option Addr} {om : Option Pts} (h : MapO w p om) (hb : Below w.heap.size w w') : MapO w' p om := by
  cases om with
  | none => exact h
  | some M => obtain ⟨g, e, h⟩ := h; exact ⟨g, e, h.below hb⟩
def lenO : Option Pts → Nat
  | none => 0
  | some M => M.names.length
theorem lenP_any (p : Option Addr) (om : Option Pts) (w : World) (h : MapO w p om) : Calls Tryd.prog 35 #[.pointer p] w fun e w' => e = .returned (.int .i64 (lenO om)) ∧ w = w' := by
  cases om with
  | none =>
    obtain rfl : p = none := h
    go_enter Tryd.func35, Tryd.ntmps35
    go_wp2
    go_ret
    exact ⟨rfl, rfl⟩
  | some M =>
    obtain ⟨g, rfl, base, vN, vR, vE, mb, h1, h2, h3, h4, h5⟩ := h
    obtain ⟨A, c, rfl, hc1, hc2⟩ := ownsRow_form h2
    have hc := h1.cell 0
    simp only [List.getElem?_toArray, List.getElem?_cons_zero] at hc
    clear h1 h2 h3 h4 h5
    show Calls _ _ _ _ fun e w' => e = .returned (.int .i64 (M.names.length : Nat)) ∧ w = w'
    generalize M.names.length = n at *
    go_enter Tryd.func35, Tryd.ntmps35
    go_wp2
    go_ret
    exact ⟨rfl, rfl⟩
def namesO : Option Pts → List ByteArray
  | none => []
  | some M => M.names
def nameAt (l : List ByteArray) (a : Int) : ByteArray := if 0 ≤ a ∧ a < (l.length : Nat) then l.getD a.toNat ⟨#[]⟩ else ⟨#[]⟩
theorem lenO_names (om : Option Pts) : (namesO om).length = lenO om := by cases om <;> rfl
def findR (om : Option Pts) (s : ByteArray) : Int × Bool :=
  match om with
  | none => (0, false)
  | some M => ((nameF M.names s).getD 0, (nameF M.names s).isSome)
end Go.Proofs.YtgimhjkijpcgjaaDoor
namespace Go.Proofs.YtgimhjkijpcgjaaDoor
open Go.RowKit Go.Lib

def edgeOf (M : Pts) : Gr := fun u v l => ∃ h : u < M.near.length, (v, l) ∈ M.near[u]
/-- What New makes: both ends of each road, in order, each other end once. -/
structure GoodM (M : Pts) : Prop where
  len : M.near.length = M.names.length
  few : M.names.length ≤ 128
  ends : ∀ u v l, edgeOf M u v l → v < M.names.length ∧ v ≠ u ∧ 1 ≤ l ∧ l ≤ 1073741824
  sym : ∀ u v l, edgeOf M u v l → edgeOf M v u l
  order : ∀ (u : Nat) (h : u < M.near.length), (M.near[u].map (·.1)).Pairwise (· < ·)
theorem GoodM.lens {M : Pts} (h : GoodM M) : Lens (edgeOf M) 1073741824 := fun u v l he => (h.ends u v l he).2.2
theorem GoodM.lt {M : Pts} (h : GoodM M) {u v : Nat} {l : Int} (he : edgeOf M u v l) : u < M.names.length ∧ v < M.names.length := ⟨by obtain ⟨h1, _⟩ := he; rw [← h.len]; exact h1, (h.ends u v l he).1⟩
/-- What from hands back: the row of distances. -/
def FromPost (w : World) (M : Pts) (a : Nat) (e : Ending) (w' : World) : Prop :=
  ∃ (v : Value) (r : Nat → Int), e = .returned v ∧ w'.ownsRow w.heap.size 2 1 v M.names.length ((List.range M.names.length).map fun x => .int .i64 (r x)) ∧ DistRow (edgeOf M) a r ∧ Below w.heap.size w w'
end Go.Proofs.YtgimhjkijpcgjaaDoor
namespace Go.Proofs.YtgimhjkijpcgjaaDoor
open Go.RowKit Go.Lib

open Classical in
/-- What is begun with: the lengths of the roads. -/
noncomputable def startD (E : Gr) (i j : Nat) : Int := if i = j then 0 else if h : ∃ l, E i j l then Classical.choose h else -1
theorem exists_rows {E : Gr} {C : Int} {n : Nat} (hl : Lens E C) (hn : ∀ u v l, E u v l → u < n) (hf : ∀ u v l l', E u v l → E u v l' → l = l') (hi : ∀ u l, ¬ E u u l) : ∃ D : Nat → Nat → Int, ∀ i, DistRow E i (D i) := by
  have h0 : ∀ i, DistRow (upTo E 0 i) i (startD E i) := by
    refine first_row hl (fun i => by unfold startD; rw [if_pos rfl]) (fun i j l he => ?_) (fun i j hij h => ?_)
    · have hij : i ≠ j := fun e => by subst e; exact hi _ _ he
      unfold startD
      have hx : ∃ l, E i j l := ⟨l, he⟩
      rw [if_neg hij, dif_pos hx]
      exact hf _ _ _ _ (Classical.choose_spec hx) he
    · unfold startD
      rw [if_neg hij, dif_neg (fun ⟨l, hx⟩ => h l hx)]
  have hk : ∀ k, ∃ D : Nat → Nat → Int, ∀ i, DistRow (upTo E k i) i (D i) := by
    intro k
    induction k with
    | zero => exact ⟨_, h0⟩
    | succ k ih =>
      obtain ⟨D, hD⟩ := ih
      exact ⟨fun i => better D k i, fun i => better_row hl hD i⟩
  obtain ⟨D, hD⟩ := hk n
  exact ⟨D, fun i => all_row hn (hD i)⟩
theorem GoodM.func {M : Pts} (h : GoodM M) (u v : Nat) (l l' : Int) (h1 : edgeOf M u v l) (h2 : edgeOf M u v l') : l = l' := by
  obtain ⟨hu, h1⟩ := h1
  obtain ⟨_, h2⟩ := h2
  have ho := h.order u hu
  rw [List.pairwise_map] at ho
  generalize M.near[u] = row at *
  induction row with
  | nil => cases h1
  | cons x row ih =>
    rw [List.pairwise_cons] at ho
    rcases List.mem_cons.1 h1 with e1 | e1
    · rcases List.mem_cons.1 h2 with e2 | e2
      · exact (Prod.mk.inj (e1.trans e2.symm)).2
      · have := ho.1 _ e2; rw [← e1] at this; exact absurd this (Nat.lt_irrefl _)
    · rcases List.mem_cons.1 h2 with e2 | e2
      · have := ho.1 _ e1; rw [← e2] at this; exact absurd this (Nat.lt_irrefl _)
      · exact ih e1 e2 ho.2
theorem GoodM.rows {M : Pts} (h : GoodM M) : ∃ D : Nat → Nat → Int, ∀ i, DistRow (edgeOf M) i (D i) :=
  exists_rows h.lens (fun _ _ _ he => (h.lt he).1) h.func (fun u l he => (h.ends u u l he).2.1 rfl)
open Classical in
/-- The distances of a map; -1: not connected. -/
noncomputable def distM (M : Pts) : Nat → Nat → Int := if h : ∃ D : Nat → Nat → Int, ∀ i, DistRow (edgeOf M) i (D i) then Classical.choose h else fun _ _ => -1
theorem GoodM.dist {M : Pts} (h : GoodM M) (a : Nat) : DistRow (edgeOf M) a (distM M a) := by
  unfold distM
  rw [dif_pos h.rows]
  exact Classical.choose_spec h.rows a
theorem GoodM.eq {M : Pts} (h : GoodM M) {a : Nat} {r : Nat → Int} (hr : DistRow (edgeOf M) a r) (v : Nat) : distM M a v = r v := DistRow.unique h.lens (h.dist a) hr v
theorem GoodM.bound {M : Pts} (h : GoodM M) {a v : Nat} (ha : a < M.names.length) : distM M a v ≤ 137438953472 := by
  by_cases h0 : 0 ≤ distM M a v
  · have h1 := (h.dist a).bound (C := 1073741824) (by decide) h.lens ha (fun u v l he => (h.lt he).2) h0
    have h2 := h.few
    have h3 : (M.names.length : Int) * 1073741824 ≤ 128 * 1073741824 := Int.mul_le_mul_of_nonneg_right (by omega) (by decide)
    omega
  · omega
theorem GoodM.low {M : Pts} (h : GoodM M) (a v : Nat) : -1 ≤ distM M a v := (h.dist a).low v
theorem GoodM.symm {M : Pts} (h : GoodM M) (a b : Nat) : distM M a b = distM M b a := DistRow.symm h.lens (h.dist a) (h.dist b) h.sym
theorem GoodM.self {M : Pts} (h : GoodM M) (a : Nat) : distM M a a = 0 := (h.dist a).self
theorem GoodM.tri {M : Pts} (h : GoodM M) {a c v : Nat} (h1 : 0 ≤ distM M a c) (h2 : 0 ≤ distM M c v) : 0 ≤ distM M a v ∧ distM M a v ≤ distM M a c + distM M c v :=
  DistRow.tri h.lens (h.dist a) (h.dist c) h1 (distM M c v).toNat v h2 (by omega)
theorem GoodM.lt_of {M : Pts} (h : GoodM M) {a v : Nat} (ha : a < M.names.length) (h0 : 0 ≤ distM M a v) : v < M.names.length := by
  rcases (h.dist a).pred v h0 with rfl | ⟨u, l, he, _⟩
  · exact ha
  · exact (h.lt he).2
end Go.Proofs.YtgimhjkijpcgjaaDoor
namespace Go.Proofs.YtgimhjkijpcgjaaDoor
open Go.RowKit Go.Lib

abbrev Pts.n (M : Pts) : Nat := M.names.length
def inM (M : Pts) (a : Int) : Prop := 0 ≤ a ∧ a < (M.n : Int)
instance (M : Pts) (a : Int) : Decidable (inM M a) := by unfold inM; infer_instance
noncomputable def distS (M : Pts) (a b : Int) : Int × Bool := if inM M a ∧ inM M b then (max (distM M a.toNat b.toNat) 0, decide (0 ≤ distM M a.toNat b.toNat)) else (0, false)
noncomputable def withinL (M : Pts) (a : Nat) (d : Int) : List Nat := (List.range M.n).filter fun b => decide (0 ≤ distM M a b) && decide (distM M a b ≤ d)
noncomputable def withinS (M : Pts) (a d : Int) : List Int := if inM M a then (withinL M a.toNat d).map (fun (x : Nat) => (x : Int)) else []
/-! Areas. -/
noncomputable def firstC (M : Pts) (k b : Nat) : Option Nat := (List.range k).find? fun c => decide (0 ≤ distM M c b)
noncomputable def labK (M : Pts) (k b : Nat) : Int := ((firstC M k b).map fun c => (c : Int)).getD (-1)
noncomputable def labelsS (M : Pts) : List Int := (List.range M.n).map (labK M M.n)
theorem firstC_succ (M : Pts) (k b : Nat) : firstC M (k + 1) b = (firstC M k b).or (if 0 ≤ distM M k b then some k else none) := by
  unfold firstC
  rw [List.range_succ, List.find?_append]
  congr 1
  by_cases h : 0 ≤ distM M k b <;> simp [h]
theorem firstC_some {M : Pts} {k b c : Nat} (h : firstC M k b = some c) : c < k ∧ 0 ≤ distM M c b := by
  unfold firstC at h
  have h1 := List.mem_of_find?_eq_some h
  have h2 := List.find?_some h
  exact ⟨List.mem_range.1 h1, of_decide_eq_true h2⟩
theorem firstC_none {M : Pts} {k b : Nat} (h : firstC M k b = none) {c : Nat} (hc : c < k) : ¬ 0 ≤ distM M c b := by
  unfold firstC at h
  rw [List.find?_eq_none] at h
  simpa using h c (List.mem_range.2 hc)
theorem labK_some {M : Pts} {k b c : Nat} (h : firstC M k b = some c) : labK M k b = c := by unfold labK; rw [h]; rfl
theorem labK_none {M : Pts} {k b : Nat} (h : firstC M k b = none) : labK M k b = -1 := by unfold labK; rw [h]; rfl
theorem labK_zero (M : Pts) (b : Nat) : labK M 0 b = -1 := labK_none (by simp [firstC])
theorem labK_neg {M : Pts} {k b : Nat} : labK M k b < 0 ↔ firstC M k b = none := by
  cases h : firstC M k b with
  | none => rw [labK_none h]; simp
  | some c => rw [labK_some h]; simp
theorem labK_lt {M : Pts} {k b : Nat} : labK M k b < k := by
  cases h : firstC M k b with
  | none => rw [labK_none h]; omega
  | some c => rw [labK_some h]; have := (firstC_some h).1; omega
/-- A point that has its label: nothing is new. -/
theorem labK_skip {M : Pts} (hM : GoodM M) {k : Nat} (h : ¬ labK M k k < 0) (b : Nat) : labK M (k + 1) b = labK M k b := by
  cases hb : firstC M k b with
  | some c => rw [labK_some hb, labK_some (c := c) (by rw [firstC_succ, hb]; rfl)]
  | none =>
    rw [labK_none hb, labK_none]
    rw [firstC_succ, hb, Option.none_or, if_neg]
    intro hd
    rw [labK_neg] at h
    cases hk : firstC M k k with
    | none => exact h hk
    | some c =>
      have h1 := firstC_some hk
      exact firstC_none hb h1.1 (hM.tri h1.2 hd).1
theorem labK_take {M : Pts} (hM : GoodM M) {k : Nat} (h : labK M k k < 0) (b : Nat) : labK M (k + 1) b = if 0 ≤ distM M k b then (k : Int) else labK M k b := by
  rw [labK_neg] at h
  by_cases hd : 0 ≤ distM M k b
  · rw [if_pos hd]
    refine labK_some ?_
    have hb : firstC M k b = none := by
      cases hb : firstC M k b with
      | none => rfl
      | some c =>
        have h1 := firstC_some hb
        have h2 : 0 ≤ distM M b k := by rw [hM.symm]; exact hd
        exact absurd (hM.tri h1.2 h2).1 (firstC_none h h1.1)
    rw [firstC_succ, hb, if_pos hd]; rfl
  · rw [if_neg hd]
    unfold labK
    rw [firstC_succ, if_neg hd, Option.or_none]
theorem labK_own {M : Pts} (hM : GoodM M) {b k : Nat} (h : b < k) : ¬ labK M k b < 0 := by
  rw [labK_neg]
  intro hn
  exact firstC_none hn h (by rw [hM.self]; omega)
/-! Ways. -/
/-- The first road at a point that leads nearer to b. -/
noncomputable def stepM (M : Pts) (b at_ : Nat) : Option (Nat × Int) := (M.near.getD at_ []).find? fun e => distM M b e.1 + e.2 == distM M b at_
noncomputable def wayF (M : Pts) (b : Nat) : Nat → Nat → List Nat
  | 0, at_ => [at_]
  | k + 1, at_ => if at_ = b then [at_] else match stepM M b at_ with
    | some e => at_ :: wayF M b k e.1
    | none => [at_]
noncomputable def wayL (M : Pts) (a b : Nat) : List Nat := if 0 ≤ distM M b a then wayF M b (distM M b a).toNat a else []
noncomputable def wayS (M : Pts) (a b : Int) : List Int := if inM M a ∧ inM M b then (wayL M a.toNat b.toNat).map (fun (x : Nat) => (x : Int)) else []
theorem GoodM.zero {M : Pts} (hM : GoodM M) {b v : Nat} (h : distM M b v = 0) : v = b := by
  rcases (hM.dist b).pred v (by omega) with h1 | ⟨u, l, he, hu, hv⟩
  · exact h1
  · have := (hM.lens u v l he).1; omega
theorem step_some {M : Pts} (hM : GoodM M) {b at_ : Nat} (h0 : 0 ≤ distM M b at_) (hne : at_ ≠ b) (hat : at_ < M.near.length) : ∃ e k, ∃ hk : k < M.near[at_].length, stepM M b at_ = some e ∧ M.near[at_][k] = e ∧ (∀ j (hj : j < k), ¬ distM M b (M.near[at_][j]'(by omega)).1 + (M.near[at_][j]'(by omega)).2 = distM M b at_) ∧
    edgeOf M at_ e.1 e.2 ∧ 0 ≤ distM M b e.1 ∧ distM M b e.1 + e.2 = distM M b at_ ∧ e.1 < M.n ∧ distM M b e.1 < distM M b at_ := by
  obtain ⟨u, l, he, hu, hv⟩ := ((hM.dist b).pred at_ h0).resolve_left hne
  obtain ⟨hat', hmem⟩ := hM.sym _ _ _ he
  have hg : M.near.getD at_ [] = M.near[at_] := by rw [List.getD_eq_getElem?_getD, List.getElem?_eq_getElem hat]; rfl
  cases hf : stepM M b at_ with
  | none =>
    unfold stepM at hf
    rw [List.find?_eq_none, hg] at hf
    have := hf _ hmem
    rw [beq_iff_eq] at this
    exact absurd hv.symm this
  | some e =>
    have hf0 := hf
    unfold stepM at hf
    rw [hg] at hf
    have hs := List.find?_some hf
    rw [beq_iff_eq] at hs
    obtain ⟨hp, pre, post, hsplit, hpre⟩ := List.find?_eq_some_iff_append.1 hf
    have hk : pre.length < M.near[at_].length := by rw [hsplit]; simp
    have hget : M.near[at_][pre.length] = e := by simp only [hsplit]; simp
    have hedge : edgeOf M at_ e.1 e.2 := ⟨hat, by rw [hsplit]; simp⟩
    have hl := hM.lens _ _ _ hedge
    have hs0 := (hM.dist b).step _ _ _ hedge h0
    refine ⟨e, pre.length, hk, rfl, hget, fun j hj => ?_, hedge, hs0.1, hs, (hM.lt hedge).2, by omega⟩
    have hj' : M.near[at_][j]'(by omega) = pre[j] := by simp only [hsplit]; rw [List.getElem_append_left hj]
    rw [hj']
    have := hpre _ (List.getElem_mem hj)
    simpa using this
theorem wayF_more {M : Pts} (hM : GoodM M) {b : Nat} : ∀ (k k' at_ : Nat), 0 ≤ distM M b at_ → at_ < M.near.length → distM M b at_ ≤ k → distM M b at_ ≤ k' → wayF M b k at_ = wayF M b k' at_ := by
  intro k
  induction k with
  | zero =>
    intro k' at_ h0 hat h1 h2
    obtain rfl := hM.zero (show distM M b at_ = 0 by omega)
    cases k' with
    | zero => rfl
    | succ k' => unfold wayF; rw [if_pos rfl]
  | succ k ih =>
    intro k' at_ h0 hat h1 h2
    by_cases e : at_ = b
    · subst e
      cases k' with
      | zero => unfold wayF; rw [if_pos rfl]
      | succ k' => unfold wayF; rw [if_pos rfl, if_pos rfl]
    · obtain ⟨x, i, hi, hs, hx, _, he, hx0, hxe, hxn, hlt⟩ := step_some hM h0 e hat
      cases k' with
      | zero => omega
      | succ k' =>
        unfold wayF
        rw [if_neg e, if_neg e, hs]
        show at_ :: wayF M b k x.1 = at_ :: wayF M b k' x.1
        rw [ih k' x.1 hx0 (by rw [hM.len]; exact hxn) (by omega) (by omega)]
theorem wayF_here (M : Pts) (b k : Nat) : wayF M b k b = [b] := by
  cases k with
  | zero => rfl
  | succ k => unfold wayF; rw [if_pos rfl]
theorem wayF_step {M : Pts} (hM : GoodM M) {b at_ : Nat} {e : Nat × Int} (h0 : 0 ≤ distM M b at_) (hne : at_ ≠ b) (hat : at_ < M.near.length) (hs : stepM M b at_ = some e) : wayF M b (distM M b at_).toNat at_ = at_ :: wayF M b (distM M b e.1).toNat e.1 := by
  obtain ⟨x, i, hi, hs', hx, _, he, hx0, hxe, hxn, hlt⟩ := step_some hM h0 hne hat
  obtain rfl : x = e := Option.some.inj (hs'.symm.trans hs)
  obtain ⟨k, hk⟩ : ∃ k, (distM M b at_).toNat = k + 1 := ⟨(distM M b at_).toNat - 1, by omega⟩
  rw [hk]
  conv => lhs; unfold wayF
  rw [if_neg hne, hs]
  show at_ :: wayF M b k x.1 = _
  rw [wayF_more hM k (distM M b x.1).toNat x.1 hx0 (by rw [hM.len]; exact hxn) (by omega) (by omega)]
/-! The middle. -/
/-- The greatest distance of a point. -/
noncomputable def eccM (M : Pts) (a : Nat) : Int := ((List.range M.n).map (distM M a)).foldl max (-1)
/-- The middle of the first k points, if there is one. -/
noncomputable def midK (M : Pts) : Nat → Int × Int
  | 0 => (-1, 0)
  | k + 1 => if (midK M k).1 < 0 ∨ eccM M k < (midK M k).2 then ((k : Int), eccM M k) else midK M k
def allM (M : Pts) : Prop := ∀ a b, a < M.n → b < M.n → 0 ≤ distM M a b
open Classical in
noncomputable def midS (M : Pts) : Int × Bool := if allM M ∧ 0 < M.n then ((midK M M.n).1, true) else (0, false)
theorem midK_pos (M : Pts) : ∀ k, 0 < k → 0 ≤ (midK M k).1 ∧ (midK M k).1 < k := by
  intro k
  induction k with
  | zero => omega
  | succ k ih =>
    intro _
    unfold midK
    split
    · simp only []; omega
    · rename_i h
      rcases Nat.eq_zero_or_pos k with e | e
      · subst e; exact absurd (.inl (by show (-1 : Int) < 0; decide)) h
      · have := ih e; omega
end Go.Proofs.YtgimhjkijpcgjaaDoor
namespace Go.Proofs.YtgimhjkijpcgjaaDoor
open Go.RowKit Go.Lib

abbrev Rd := Int × Int × Int
def okByte (c : UInt8) : Bool := (decide (97 ≤ c.toNat) && decide (c.toNat ≤ 122)) || (decide (65 ≤ c.toNat) && decide (c.toNat ≤ 90)) || (decide (48 ≤ c.toNat) && decide (c.toNat ≤ 57)) || decide (c.toNat = 45)
def okName (s : ByteArray) : Bool := decide (0 < s.size) && decide (s.size ≤ 24) && s.data.toList.all okByte
def hasName (seen : List ByteArray) (s : ByteArray) : Bool := seen.any fun t => t.data.toList == s.data.toList
def nameE (seen : List ByteArray) (s : ByteArray) : Int := if okName s = false then 15 else if hasName seen s = true then 6 else 0
def namesE : List ByteArray → List ByteArray → Int
  | _, [] => 0
  | seen, s :: l => if nameE seen s = 0 then namesE (seen ++ [s]) l else nameE seen s
def sameRoad (x y : Rd) : Bool := (y.1 == x.1 && y.2.1 == x.2.1) || (y.1 == x.2.1 && y.2.1 == x.1)
def hasRoad (seen : List Rd) (x : Rd) : Bool := seen.any (sameRoad x)
def roadE (n : Nat) (seen : List Rd) (x : Rd) : Int :=
  if x.1 < 0 ∨ (n : Int) ≤ x.1 ∨ x.2.1 < 0 ∨ (n : Int) ≤ x.2.1 then 3 else if x.1 = x.2.1 then 9 else if x.2.2 < 1 ∨ 1073741824 < x.2.2 then 2 else if hasRoad seen x = true then 6 else 0
def roadsE (n : Nat) : List Rd → List Rd → Int
  | _, [] => 0
  | seen, x :: l => if roadE n seen x = 0 then roadsE n (seen ++ [x]) l else roadE n seen x
/-- The error of New. -/
def newE (names : List ByteArray) (roads : List Rd) : Int :=
  if 128 < names.length ∨ 512 < roads.length then 12 else if namesE [] names = 0 then roadsE names.length [] roads else namesE [] names
theorem names_step (names : List ByteArray) (i : Nat) (hi : i < names.length) : namesE (names.take i) (names.drop i) = if nameE (names.take i) names[i] = 0 then namesE (names.take (i + 1)) (names.drop (i + 1)) else nameE (names.take i) names[i] := by
  rw [List.drop_eq_getElem_cons hi, List.take_succ_eq_append_getElem hi]; rfl
theorem roads_step (n : Nat) (roads : List Rd) (i : Nat) (hi : i < roads.length) : roadsE n (roads.take i) (roads.drop i) = if roadE n (roads.take i) roads[i] = 0 then roadsE n (roads.take (i + 1)) (roads.drop (i + 1)) else roadE n (roads.take i) roads[i] := by
  rw [List.drop_eq_getElem_cons hi, List.take_succ_eq_append_getElem hi]; rfl
/-- The other ends, as the roads come. -/
def addRoad (near : List (List (Nat × Int))) (x : Rd) : List (List (Nat × Int)) := (near.modify x.1.toNat (· ++ [(x.2.1.toNat, x.2.2)])).modify x.2.1.toNat (· ++ [(x.1.toNat, x.2.2)])
def nearU (n : Nat) (roads : List Rd) : List (List (Nat × Int)) := roads.foldl addRoad (List.replicate n [])
def endLe (x y : Nat × Int) : Bool := decide (x.1 ≤ y.1)
def newM (names : List ByteArray) (roads : List Rd) : Pts := ⟨names, roads, (nearU names.length roads).map fun l => l.mergeSort endLe⟩
structure Okr (n : Nat) (x : Rd) : Prop where
  a0 : 0 ≤ x.1
  a1 : x.1 < n
  b0 : 0 ≤ x.2.1
  b1 : x.2.1 < n
  ne : x.1 ≠ x.2.1
  l0 : 1 ≤ x.2.2
  l1 : x.2.2 ≤ 1073741824
theorem roadE_zero {n : Nat} {seen : List Rd} {x : Rd} : roadE n seen x = 0 ↔ Okr n x ∧ hasRoad seen x = false := by
  unfold roadE
  constructor
  · intro h
    split at h
    · omega
    split at h
    · omega
    split at h
    · omega
    split at h
    · omega
    rename_i h1 h2 h3 h4
    exact ⟨⟨by omega, by omega, by omega, by omega, h2, by omega, by omega⟩, by simpa using h4⟩
  · rintro ⟨⟨a0, a1, b0, b1, ne, l0, l1⟩, h⟩
    rw [if_neg (by omega), if_neg ne, if_neg (by omega), if_neg (by simp [h])]
theorem addRoad_len (near : List (List (Nat × Int))) (x : Rd) : (addRoad near x).length = near.length := by simp [addRoad]
theorem nearU_snoc (n : Nat) (roads : List Rd) (x : Rd) : nearU n (roads ++ [x]) = addRoad (nearU n roads) x := by simp [nearU]
theorem foldl_addRoad_len (roads : List Rd) : ∀ near : List (List (Nat × Int)), (roads.foldl addRoad near).length = near.length := by
  induction roads with
  | nil => intro near; rfl
  | cons x l ih => intro near; rw [List.foldl_cons, ih, addRoad_len]
theorem nearU_len (n : Nat) (roads : List Rd) : (nearU n roads).length = n := by unfold nearU; rw [foldl_addRoad_len]; simp
theorem modify_getD {near : List (List (Nat × Int))} {i u : Nat} {f : List (Nat × Int) → List (Nat × Int)} (hi : i < near.length) : (near.modify i f).getD u [] = if u = i then f (near.getD u []) else near.getD u [] := by
  rw [List.getD_eq_getElem?_getD, List.getD_eq_getElem?_getD, List.getElem?_modify]
  by_cases e : u = i
  · subst e; rw [if_pos rfl, List.getElem?_eq_getElem hi]; simp
  · rw [if_neg e]
    cases h : near[u]? with
    | none => rfl
    | some v => simp [Ne.symm e]
theorem addRoad_getD {n : Nat} {near : List (List (Nat × Int))} (hn : near.length = n) {x : Rd} (h : Okr n x) (u : Nat) :
    (addRoad near x).getD u [] = if (u : Int) = x.1 then near.getD u [] ++ [(x.2.1.toNat, x.2.2)] else if (u : Int) = x.2.1 then near.getD u [] ++ [(x.1.toNat, x.2.2)] else near.getD u [] := by
  obtain ⟨a0, a1, b0, b1, ne, l0, l1⟩ := h
  unfold addRoad
  rw [modify_getD (by rw [List.length_modify]; omega), modify_getD (by omega)]
  by_cases h1 : (u : Int) = x.1
  · rw [if_pos h1, if_neg (by omega), if_pos (by omega)]
  · rw [if_neg h1]
    by_cases h2 : (u : Int) = x.2.1
    · rw [if_pos h2, if_pos (by omega), if_neg (by omega)]
    · rw [if_neg h2, if_neg (by omega), if_neg (by omega)]
def isRoad (x : Rd) (u v : Nat) (l : Int) : Prop := (x.1 = u ∧ x.2.1 = v ∧ x.2.2 = l) ∨ (x.1 = v ∧ x.2.1 = u ∧ x.2.2 = l)
theorem list_rev_ind {α : Type} {p : List α → Prop} (h0 : p []) (h1 : ∀ l x, p l → p (l ++ [x])) (l : List α) : p l := by
  rw [← List.reverse_reverse l]
  induction l.reverse with
  | nil => exact h0
  | cons x l ih => rw [List.reverse_cons]; exact h1 _ _ ih
theorem nearU_mem {n : Nat} (roads : List Rd) : (∀ x ∈ roads, Okr n x) → ∀ u v l, (v, l) ∈ (nearU n roads).getD u [] ↔ ∃ x ∈ roads, isRoad x u v l := by
  refine list_rev_ind (p := fun roads => (∀ x ∈ roads, Okr n x) → ∀ u v l, (v, l) ∈ (nearU n roads).getD u [] ↔ ∃ x ∈ roads, isRoad x u v l) ?_ ?_ roads
  · intro _ u v l
    have : (nearU n []).getD u [] = [] := by
      unfold nearU
      rw [List.foldl_nil, List.getD_eq_getElem?_getD, List.getElem?_replicate]
      split <;> rfl
    rw [this]; simp
  · intro roads x ih h u v l
    have ih' := ih (fun y hy => h y (by simp [hy])) u v l
    have hx := h x (by simp)
    have hmem : (∃ y ∈ roads ++ [x], isRoad y u v l) ↔ (∃ y ∈ roads, isRoad y u v l) ∨ isRoad x u v l := by
      constructor
      · rintro ⟨y, hy, hr⟩
        rcases List.mem_append.1 hy with hy | hy
        · exact .inl ⟨y, hy, hr⟩
        · obtain rfl := List.mem_singleton.1 hy; exact .inr hr
      · rintro (⟨y, hy, hr⟩ | hr)
        · exact ⟨y, by simp [hy], hr⟩
        · exact ⟨x, by simp, hr⟩
    rw [nearU_snoc, addRoad_getD (nearU_len n roads) hx, hmem, ← ih']
    obtain ⟨a0, a1, b0, b1, ne, l0, l1⟩ := hx
    unfold isRoad
    split
    · rename_i h1
      rw [List.mem_append, List.mem_singleton, Prod.mk.injEq]
      constructor
      · rintro (h | ⟨rfl, rfl⟩)
        · exact .inl h
        · exact .inr (.inl ⟨by omega, by omega, rfl⟩)
      · rintro (h | ⟨h1, h2, h3⟩ | ⟨h1, h2, h3⟩)
        · exact .inl h
        · exact .inr ⟨by omega, h3.symm⟩
        · omega
    · split
      · rename_i h1 h2
        rw [List.mem_append, List.mem_singleton, Prod.mk.injEq]
        constructor
        · rintro (h | ⟨rfl, rfl⟩)
          · exact .inl h
          · exact .inr (.inr ⟨by omega, by omega, rfl⟩)
        · rintro (h | ⟨h1, h2, h3⟩ | ⟨h1, h2, h3⟩)
          · exact .inl h
          · omega
          · exact .inr ⟨by omega, h3.symm⟩
      · rename_i h1 h2
        constructor
        · exact .inl
        · rintro (h | ⟨h3, _⟩ | ⟨_, h3, _⟩)
          · exact h
          · exact absurd h3.symm h1
          · exact absurd h3.symm h2
/-- Each other end once. -/
def Apart2 (roads : List Rd) : Prop := roads.Pairwise fun x y => sameRoad y x = false
theorem nearU_nodup {n : Nat} (roads : List Rd) : (∀ x ∈ roads, Okr n x) → Apart2 roads → ∀ u, (((nearU n roads).getD u []).map (·.1)).Nodup := by
  refine list_rev_ind (p := fun roads => (∀ x ∈ roads, Okr n x) → Apart2 roads → ∀ u, (((nearU n roads).getD u []).map (·.1)).Nodup) ?_ ?_ roads
  · intro _ _ u
    have : (nearU n []).getD u [] = [] := by
      unfold nearU
      rw [List.foldl_nil, List.getD_eq_getElem?_getD, List.getElem?_replicate]
      split <;> rfl
    rw [this]; exact List.nodup_nil
  · intro roads x ih h hp u
    have hr : ∀ y ∈ roads, Okr n y := fun y hy => h y (by simp [hy])
    unfold Apart2 at hp
    rw [List.pairwise_append] at hp
    have ih' := ih hr hp.1 u
    have hnew := fun y hy => hp.2.2 y hy x (by simp)
    have hx := h x (by simp)
    rw [nearU_snoc, addRoad_getD (nearU_len n roads) hx]
    have key : ∀ v l, (v, l) ∈ (nearU n roads).getD u [] → ¬ ((u : Int) = x.1 ∧ (v : Int) = x.2.1) ∧ ¬ ((u : Int) = x.2.1 ∧ (v : Int) = x.1) := by
      intro v l hm
      obtain ⟨y, hy, hr'⟩ := (nearU_mem roads hr u v l).1 hm
      have h1 := hnew y hy
      unfold sameRoad at h1
      rw [Bool.or_eq_false_iff, Bool.and_eq_false_iff, Bool.and_eq_false_iff, beq_eq_false_iff_ne, beq_eq_false_iff_ne, beq_eq_false_iff_ne, beq_eq_false_iff_ne] at h1
      unfold isRoad at hr'
      omega
    obtain ⟨a0, a1, b0, b1, ne, l0, l1⟩ := hx
    split
    · rename_i h1
      rw [List.map_append, List.nodup_append]
      refine ⟨ih', by simp, ?_⟩
      intro v hv w hw
      obtain ⟨⟨v', l'⟩, hm, rfl⟩ := List.mem_map.1 hv
      have := key v' l' hm
      simp at hw
      subst hw
      simp only [ne_eq]
      omega
    · split
      · rename_i h1 h2
        rw [List.map_append, List.nodup_append]
        refine ⟨ih', by simp, ?_⟩
        intro v hv w hw
        obtain ⟨⟨v', l'⟩, hm, rfl⟩ := List.mem_map.1 hv
        have := key v' l' hm
        simp at hw
        subst hw
        simp only [ne_eq]
        omega
      · exact ih'
theorem roadsE_zero {n : Nat} : ∀ (l seen : List Rd), roadsE n seen l = 0 → (∀ x ∈ l, Okr n x) ∧ Apart2 l ∧ ∀ x ∈ seen, ∀ y ∈ l, sameRoad y x = false := by
  intro l
  induction l with
  | nil => intro seen _; exact ⟨(fun x hx => by cases hx), List.Pairwise.nil, (fun x _ y hy => by cases hy)⟩
  | cons x l ih =>
    intro seen h
    unfold roadsE at h
    by_cases h0 : roadE n seen x = 0
    · rw [if_pos h0] at h
      obtain ⟨h1, h2⟩ := roadE_zero.1 h0
      obtain ⟨i1, i2, i3⟩ := ih _ h
      unfold hasRoad at h2
      rw [List.any_eq_false] at h2
      refine ⟨fun y hy => ?_, ?_, fun s hs y hy => ?_⟩
      · rcases List.mem_cons.1 hy with rfl | hy
        · exact h1
        · exact i1 y hy
      · unfold Apart2
        rw [List.pairwise_cons]
        exact ⟨fun y hy => i3 x (by simp) y hy, i2⟩
      · rcases List.mem_cons.1 hy with rfl | hy
        · simpa using h2 s hs
        · exact i3 s (by simp [hs]) y hy
    · rw [if_neg h0] at h; exact absurd h h0
theorem newE_zero {names : List ByteArray} {roads : List Rd} (h : newE names roads = 0) : names.length ≤ 128 ∧ roads.length ≤ 512 ∧ namesE [] names = 0 ∧ (∀ x ∈ roads, Okr names.length x) ∧ Apart2 roads := by
  unfold newE at h
  split at h
  · omega
  split at h
  · rename_i h1 h2
    obtain ⟨r1, r2, _⟩ := roadsE_zero _ _ h
    exact ⟨by omega, by omega, h2, r1, r2⟩
  · rename_i h1 h2; exact absurd h h2
theorem edge_new {names : List ByteArray} {roads : List Rd} (h : newE names roads = 0) (u v : Nat) (l : Int) : edgeOf (newM names roads) u v l ↔ ∃ x ∈ roads, isRoad x u v l := by
  obtain ⟨_, _, _, hok, _⟩ := newE_zero h
  rw [← nearU_mem roads hok u v l]
  unfold edgeOf newM
  simp only [List.length_map, List.getElem_map]
  constructor
  · rintro ⟨hu, hm⟩
    rw [List.getD_eq_getElem?_getD, List.getElem?_eq_getElem hu]
    exact List.mem_mergeSort.1 hm
  · intro hm
    have hu : u < (nearU names.length roads).length := by
      rcases Nat.lt_or_ge u (nearU names.length roads).length with h1 | h1
      · exact h1
      · rw [List.getD_eq_getElem?_getD, List.getElem?_eq_none h1] at hm; cases hm
    rw [List.getD_eq_getElem?_getD, List.getElem?_eq_getElem hu] at hm
    exact ⟨hu, List.mem_mergeSort.2 hm⟩
theorem sort_strict {l : List (Nat × Int)} (h : (l.map (·.1)).Nodup) : ((l.mergeSort endLe).map (·.1)).Pairwise (· < ·) := by
  have hs : (l.mergeSort endLe).Pairwise fun x y => endLe x y = true := List.pairwise_mergeSort (fun a b c h1 h2 => by unfold endLe at *; rw [decide_eq_true_iff] at *; omega) (fun a b => by unfold endLe; rcases Nat.le_total a.1 b.1 with h | h <;> simp [h]) l
  have hn : ((l.mergeSort endLe).map (·.1)).Nodup := ((List.mergeSort_perm l endLe).map (·.1)).nodup_iff.2 h
  have h1 : ((l.mergeSort endLe).map (·.1)).Pairwise (· ≤ ·) := by rw [List.pairwise_map]; exact hs.imp (fun h => by unfold endLe at h; exact of_decide_eq_true h)
  exact (List.Pairwise.and h1 hn).imp (fun ⟨a, b⟩ => Nat.lt_of_le_of_ne a b)
theorem good_new {names : List ByteArray} {roads : List Rd} (h : newE names roads = 0) : GoodM (newM names roads) := by
  have he := edge_new h
  obtain ⟨hn, _, _, hok, hap⟩ := newE_zero h
  refine ⟨by simp [newM, nearU_len], hn, fun u v l h1 => ?_, fun u v l h1 => ?_, fun u hu => ?_⟩
  · obtain ⟨x, hx, hr⟩ := (he u v l).1 h1
    obtain ⟨a0, a1, b0, b1, ne, l0, l1⟩ := hok x hx
    show v < names.length ∧ _
    unfold isRoad at hr
    omega
  · obtain ⟨x, hx, hr⟩ := (he u v l).1 h1
    exact (he v u l).2 ⟨x, hx, hr.symm⟩
  · have hu' : u < (nearU names.length roads).length := by simpa [newM] using hu
    have := nearU_nodup roads hok hap u
    rw [List.getD_eq_getElem?_getD, List.getElem?_eq_getElem hu'] at this
    simpa [newM] using sort_strict this
end Go.Proofs.YtgimhjkijpcgjaaDoor
