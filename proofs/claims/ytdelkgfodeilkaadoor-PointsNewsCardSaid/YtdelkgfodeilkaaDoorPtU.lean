/-
  layer 36: what the outright laws say of the middle, of ways, of one more road. Plain facts of no program. Conditions: a map that New made.
-/
import Derived.Test.YtdelkgfodeilkaaDoorPtT
import Derived.Test.YtdelkgfodeilkaaDoorPtD
import Derived.Test.YtdelkgfodeilkaaDoorPtA
import Derived.Test.YtdelkgfodeilkaaDoorPtL
import Derived.Test.YtdelkgfodeilkaaDoorPtO
namespace Go.Proofs.YtdelkgfodeilkaaDoor
open Go.RowKit Go.Lib

/-! The middle. -/
def allB (M : Pts) (j : Nat) : Prop := 0 < M.n ∧ ∀ i, i < j → labK M M.n i = 0
open Classical in
theorem middle_facts {M : Pts} (hM : GoodM M) : ∃ (a : Int) (ok : Bool), midO (some M) = (a, ok) ∧ (ok = true ↔ allB M M.n) ∧ (ok = false → a = 0) ∧
    (ok = true → ∃ b : Nat, a = (b : Int) ∧ b < M.n ∧ ∀ i, i < M.n → ¬ farK M i M.n < farK M b M.n ∧ (i < b → ¬ farK M i M.n = farK M b M.n)) := by
  show ∃ (a : Int) (ok : Bool), midS M = (a, ok) ∧ _
  have hall : (allM M ∧ 0 < M.n) ↔ allB M M.n := by
    constructor
    · rintro ⟨h1, h2⟩
      exact ⟨h2, (all_iff hM h2).1 h1⟩
    · rintro ⟨h1, h2⟩
      exact ⟨(all_iff hM h1).2 h2, h1⟩
  by_cases h : allM M ∧ 0 < M.n
  · refine ⟨(midK M M.n).1, true, by unfold midS; rw [if_pos h], ⟨fun _ => hall.1 h, fun _ => rfl⟩, fun e => (by cases e), fun _ => ?_⟩
    obtain ⟨b, hb, e1, e2, h1, h2⟩ := midK_best M M.n h.2
    refine ⟨b, e1, hb, fun i hi => ?_⟩
    rw [farK_ecc h.1 hi, farK_ecc h.1 hb]
    have := h1 i hi
    exact ⟨by omega, fun hib => by have := h2 i hib; omega⟩
  · exact ⟨0, false, by unfold midS; rw [if_neg h], ⟨fun e => (by cases e), fun e => absurd (hall.2 e) h⟩, fun _ => rfl, fun e => (by cases e)⟩
/-- The row of greatest distances while it is being filled: before point i all are there, at point i those of the first k. -/
noncomputable def farF (M : Pts) (i k : Nat) : Nat → Int := fun a => if a < i then farK M a M.n else if a = i then farK M a k else 0
theorem farF_start (M : Pts) : farF M 0 0 = fun _ => 0 := by
  funext a
  unfold farF
  rw [if_neg (Nat.not_lt_zero a)]
  split
  · exact farK_zero M a
  · rfl
theorem farF_here (M : Pts) (i k : Nat) : farF M i k i = farK M i k := by unfold farF; rw [if_neg (Nat.lt_irrefl i), if_pos rfl]
theorem farF_step (M : Pts) (i k : Nat) : setF (farF M i k) i (max (farK M i k) (max (distM M i k) 0)) = farF M i (k + 1) := by
  funext a
  unfold setF farF
  by_cases e : a = i
  · subst e
    rw [if_pos rfl, if_neg (Nat.lt_irrefl a), if_pos rfl, farK_succ]
  · rw [if_neg e, if_neg e, if_neg e]
theorem farF_next (M : Pts) (i : Nat) : farF M i M.n = farF M (i + 1) 0 := by
  funext a
  unfold farF
  by_cases h1 : a < i
  · rw [if_pos h1, if_pos (by omega)]
  · rw [if_neg h1]
    by_cases e : a = i
    · rw [if_pos e, if_pos (by omega)]
    · rw [if_neg e, if_neg (by omega)]
      split
      · exact (farK_zero M a).symm
      · rfl
theorem farF_end {M : Pts} {a : Nat} (h : a < M.n) : farF M M.n 0 a = farK M a M.n := by unfold farF; rw [if_pos h]
theorem farK_bound {M : Pts} (hM : GoodM M) {a : Nat} (ha : a < M.n) : ∀ k, 0 ≤ farK M a k ∧ farK M a k ≤ 137438953472 := by
  intro k
  induction k with
  | zero => rw [farK_zero]; omega
  | succ k ih =>
    have := hM.bound (v := k) ha
    rw [farK_succ]; omega
/-! Ways. -/
def StepW (M : Pts) (b x y : Nat) : Prop := ∃ l, edgeOf M x y l ∧ 0 ≤ distM M b y ∧ distM M b y + l = distM M b x ∧ ∀ e ∈ M.near.getD x [], e.1 < y → distM M b e.1 + e.2 ≠ distM M b x
def ChainW (M : Pts) (b : Nat) : List Nat → Prop
  | [] => False
  | [x] => x = b
  | x :: y :: l => StepW M b x y ∧ ChainW M b (y :: l)
theorem wayF_head (M : Pts) (b k x : Nat) : ∃ l, wayF M b k x = x :: l := by
  cases k with
  | zero => exact ⟨[], rfl⟩
  | succ k =>
    unfold wayF
    split
    · exact ⟨[], rfl⟩
    · split
      · exact ⟨_, rfl⟩
      · exact ⟨[], rfl⟩
theorem wayF_chain {M : Pts} (hM : GoodM M) {b : Nat} : ∀ (k at_ : Nat), 0 ≤ distM M b at_ → at_ < M.near.length → distM M b at_ ≤ k → ChainW M b (wayF M b k at_) := by
  intro k
  induction k with
  | zero =>
    intro at_ h0 hat h1
    obtain rfl := hM.zero (show distM M b at_ = 0 by omega)
    show at_ = at_
    rfl
  | succ k ih =>
    intro at_ h0 hat h1
    by_cases e : at_ = b
    · subst e
      unfold wayF
      rw [if_pos rfl]
      show at_ = at_
      rfl
    · obtain ⟨x, i, hi, hs, hx, hpre, he, hx0, hxe, hxn, hlt⟩ := step_some hM h0 e hat
      unfold wayF
      rw [if_neg e, hs]
      show ChainW M b (at_ :: wayF M b k x.1)
      have hc := ih x.1 hx0 (by rw [hM.len]; exact hxn) (by omega)
      obtain ⟨l, hl⟩ := wayF_head M b k x.1
      rw [hl] at hc ⊢
      refine ⟨⟨x.2, he, hx0, hxe, fun y hy hyx => ?_⟩, hc⟩
      rw [List.getD_eq_getElem?_getD, List.getElem?_eq_getElem hat] at hy
      obtain ⟨j, hj, rfl⟩ := List.getElem_of_mem (show y ∈ M.near[at_] from hy)
      have ho := hM.order at_ hat
      rw [List.pairwise_map] at ho
      have hji : j < i := by
        rcases Nat.lt_trichotomy j i with h | h | h
        · exact h
        · subst h; rw [hx] at hyx; omega
        · have := List.pairwise_iff_getElem.1 ho i j hi hj h
          rw [hx] at this; omega
      exact hpre j hji
theorem ChainW.at_ {M : Pts} {b : Nat} : ∀ {l : List Nat}, ChainW M b l → ∀ i (hi : i + 1 < l.length), StepW M b (l[i]'(by omega)) l[i + 1]
  | [], h, _, _ => h.elim
  | [x], _, i, hi => by simp at hi
  | x :: y :: l, h, 0, _ => h.1
  | x :: y :: l, h, i + 1, hi => ChainW.at_ h.2 i (by simp at hi ⊢; omega)
theorem ChainW.last {M : Pts} {b : Nat} : ∀ {l : List Nat}, ChainW M b l → ∃ h : 0 < l.length, l[l.length - 1]'(by omega) = b
  | [], h => h.elim
  | [x], h => ⟨by simp, h⟩
  | x :: y :: l, h => by
    obtain ⟨h1, h2⟩ := ChainW.last h.2
    refine ⟨by simp, ?_⟩
    rw [← h2]
    simp
theorem ChainW.falls {M : Pts} (hM : GoodM M) {b : Nat} : ∀ {l : List Nat}, ChainW M b l → l.Pairwise (fun x y => distM M b y < distM M b x)
  | [], h => h.elim
  | [x], _ => List.pairwise_singleton _ x
  | x :: y :: l, h => by
    have ih := ChainW.falls hM h.2
    obtain ⟨⟨e, he, h0, h1, _⟩, _⟩ := h
    have := hM.lens x y e he
    refine List.pairwise_cons.2 ⟨fun z hz => ?_, ih⟩
    rcases List.mem_cons.1 hz with rfl | hz
    · omega
    · have := (List.pairwise_cons.1 ih).1 z hz
      omega
theorem ChainW.all {M : Pts} (hM : GoodM M) {b : Nat} : ∀ {l : List Nat}, ChainW M b l → ∀ x, l[0]? = some x → x < M.n → 0 ≤ distM M b x → ∀ u ∈ l, u < M.n ∧ 0 ≤ distM M b u
  | [], h, _, _, _, _ => h.elim
  | [y], _, x, hx, hn, h0 => by
    intro u hu
    simp at hx hu
    subst hx hu
    exact ⟨hn, h0⟩
  | x :: y :: l, h, z, hz, hn, h0 => by
    have hzx : x = z := by simpa using hz
    subst hzx
    have hs := h.1
    obtain ⟨e, he, hy0, _, _⟩ := hs
    intro u hu
    rcases List.mem_cons.1 hu with rfl | hu
    · exact ⟨hn, h0⟩
    · exact ChainW.all hM h.2 y rfl (hM.lt he).2 hy0 u hu
structure WayOk (M : Pts) (a b : Nat) (P : List Nat) : Prop where
  pos : 0 < P.length
  few : P.length ≤ M.n
  first : P[0]? = some a
  last : P[P.length - 1]? = some b
  all : ∀ u ∈ P, u < M.n ∧ 0 ≤ distM M u b
  step : ∀ i (hi : i + 1 < P.length), ∃ l, edgeOf M (P[i]'(by omega)) P[i + 1] l ∧ 1 ≤ l ∧ distM M P[i + 1] b + l = distM M (P[i]'(by omega)) b ∧ ∀ e ∈ M.near.getD (P[i]'(by omega)) [], e.1 < P[i + 1] → distM M e.1 b + e.2 ≠ distM M (P[i]'(by omega)) b
theorem way_ok {M : Pts} (hM : GoodM M) {a b : Nat} (ha : a < M.n) (hb : b < M.n) (h0 : 0 ≤ distM M a b) : ∃ P : List Nat, wayO (some M) a b = P.map (fun (x : Nat) => (x : Int)) ∧ WayOk M a b P := by
  have h0' : 0 ≤ distM M b a := by rw [hM.symm]; exact h0
  have hin : inM M (a : Int) ∧ inM M (b : Int) := ⟨⟨by omega, by show (a : Int) < (M.n : Int); omega⟩, ⟨by omega, by show (b : Int) < (M.n : Int); omega⟩⟩
  refine ⟨wayF M b (distM M b a).toNat a, ?_, ?_⟩
  · show wayS M a b = _
    unfold wayS
    rw [if_pos hin, Int.toNat_natCast, Int.toNat_natCast]
    unfold wayL
    rw [if_pos h0']
  · have hc := wayF_chain hM (b := b) (distM M b a).toNat a h0' (by rw [hM.len]; exact ha) (by omega)
    obtain ⟨l, hl⟩ := wayF_head M b (distM M b a).toNat a
    generalize wayF M b (distM M b a).toNat a = P at hc hl
    have hf : P[0]? = some a := by rw [hl]; rfl
    have hall := hc.all hM a hf ha h0'
    obtain ⟨hp, hlast⟩ := hc.last
    refine ⟨hp, ?_, hf, ?_, fun u hu => ⟨(hall u hu).1, by rw [hM.symm]; exact (hall u hu).2⟩, fun i hi => ?_⟩
    · exact nodup_len M.n P ((hc.falls hM).imp (fun h e => by rw [e] at h; exact absurd h (Int.lt_irrefl _))) (fun x hx => (hall x hx).1)
    · rw [List.getElem?_eq_getElem (by omega), hlast]
    · obtain ⟨e, he, h1, h2, h3⟩ := hc.at_ i hi
      refine ⟨e, he, (hM.lens _ _ _ he).1, by rw [hM.symm _ b, hM.symm _ b]; exact h2, fun y hy hyx => ?_⟩
      rw [hM.symm _ b, hM.symm _ b]
      exact h3 y hy hyx
/-- The length of the last of the first roads that joins two points; 0: none. -/
def joins (x : Rd) (u v : Int) : Bool := (decide (x.1 = u) && decide (x.2.1 = v)) || (decide (x.2.1 = u) && decide (x.1 = v))
def lenR (roads : List Rd) (j : Nat) (u v : Int) : Int := (roads.take j).foldl (fun acc x => if joins x u v = true then x.2.2 else acc) 0
theorem lenR_zero (roads : List Rd) (u v : Int) : lenR roads 0 u v = 0 := rfl
theorem lenR_succ {roads : List Rd} {j : Nat} (hj : j < roads.length) (u v : Int) : lenR roads (j + 1) u v = if joins roads[j] u v = true then (roads[j]).2.2 else lenR roads j u v := by
  unfold lenR
  rw [List.take_succ_eq_append_getElem hj, List.foldl_append]; rfl
theorem foldl_last {p : Rd → Bool} {l : Int} : ∀ (L : List Rd) (acc : Int), (∀ x ∈ L, p x = true → x.2.2 = l) → (acc = l ∨ ∃ x ∈ L, p x = true) → L.foldl (fun acc x => if p x = true then x.2.2 else acc) acc = l
  | [], acc, _, h => by
    rcases h with h | ⟨x, hx, _⟩
    · exact h
    · cases hx
  | y :: L, acc, ha, h => by
    rw [List.foldl_cons]
    refine foldl_last L _ (fun x hx => ha x (List.mem_cons_of_mem _ hx)) ?_
    by_cases hy : p y = true
    · rw [if_pos hy]; exact .inl (ha y (List.mem_cons_self ..) hy)
    · rw [if_neg hy]
      rcases h with h | ⟨x, hx, hp⟩
      · exact .inl h
      · rcases List.mem_cons.1 hx with rfl | hx
        · exact absurd hp hy
        · exact .inr ⟨x, hx, hp⟩
theorem lenR_all {names : List ByteArray} {roads : List Rd} (hE : newE names roads = 0) {M : Pts} (hMM : newM names roads = M) {u v : Nat} {l : Int} (he : edgeOf M u v l) : lenR roads roads.length u v = l := by
  subst hMM
  unfold lenR
  rw [List.take_length]
  refine foldl_last roads 0 (fun x hx hp => ?_) (.inr ?_)
  · refine (good_new hE).func u v _ _ ((edge_new hE u v x.2.2).2 ⟨x, hx, ?_⟩) he
    unfold joins at hp
    simp only [Bool.or_eq_true, Bool.and_eq_true, decide_eq_true_iff] at hp
    rcases hp with ⟨h1, h2⟩ | ⟨h1, h2⟩
    · exact .inl ⟨h1, h2, rfl⟩
    · exact .inr ⟨h2, h1, rfl⟩
  · obtain ⟨x, hx, h⟩ := (edge_new hE u v l).1 he
    refine ⟨x, hx, ?_⟩
    unfold joins
    simp only [Bool.or_eq_true, Bool.and_eq_true, decide_eq_true_iff]
    rcases h with ⟨h1, h2, _⟩ | ⟨h1, h2, _⟩
    · exact .inl ⟨h1, h2⟩
    · exact .inr ⟨h2, h1⟩
/-! One more road. -/
theorem more_facts {names : List ByteArray} {roads : List Rd} {x : Rd} (hE : newE names (roads ++ [x]) = 0) {M M2 : Pts} (hM : newM names roads = M) (hM2 : newM names (roads ++ [x]) = M2) {a b : Nat} (ha : a < M.n) (hb : b < M.n) :
    M2.n = M.n ∧ ∃ (d : Int) (ok : Bool) (c : Int) (is_ : Bool) (p : Int) (pk : Bool) (q : Int) (qk : Bool), distO (some M) a b = (d, ok) ∧ distO (some M2) a b = (c, is_) ∧ distO (some M) a x.1 = (p, pk) ∧ distO (some M) x.2.1 b = (q, qk) ∧
      (ok = true → is_ = true ∧ c ≤ d) ∧ (pk = true → qk = true → is_ = true ∧ c ≤ p + x.2.2 + q) ∧ 0 ≤ p ∧ p ≤ 137438953472 ∧ 0 ≤ q ∧ q ≤ 137438953472 ∧ 1 ≤ x.2.2 ∧ x.2.2 ≤ 1073741824 := by
  subst hM hM2
  obtain ⟨hE1, hx⟩ := newE_less hE
  have hG := good_new hE1
  have hG2 := good_new hE
  obtain ⟨a0, a1, b0, b1, ne, l0, l1⟩ := hx
  refine ⟨rfl, ?_⟩
  have ha2 : a < (newM names (roads ++ [x])).n := ha
  have hb2 : b < (newM names (roads ++ [x])).n := hb
  have hA : x.1.toNat < (newM names roads).n := by show x.1.toNat < names.length; omega
  have hB : x.2.1.toNat < (newM names roads).n := by show x.2.1.toNat < names.length; omega
  have eA : (x.1 : Int) = (x.1.toNat : Int) := by omega
  have eB : (x.2.1 : Int) = (x.2.1.toNat : Int) := by omega
  have u1 := hG.bound (v := x.1.toNat) ha
  have u2 := hG.bound (v := b) hB
  have dA : distO (some (newM names roads)) a x.1 = (max (distM (newM names roads) a x.1.toNat) 0, decide (0 ≤ distM (newM names roads) a x.1.toNat)) := by
    conv => lhs; rw [eA]
    exact distO_in ha hA
  have dB : distO (some (newM names roads)) x.2.1 b = (max (distM (newM names roads) x.2.1.toNat b) 0, decide (0 ≤ distM (newM names roads) x.2.1.toNat b)) := by
    conv => lhs; rw [eB]
    exact distO_in hB hb
  refine ⟨_, _, _, _, _, _, _, _, distO_in ha hb, distO_in ha2 hb2, dA, dB, fun h => ?_, fun h1 h2 => ?_, by omega, by omega, by omega, by omega, l0, l1⟩
  · have h' := of_decide_eq_true h
    obtain ⟨h1, h2⟩ := dist_more hE h'
    exact ⟨decide_eq_true h1, by omega⟩
  · have h1' := of_decide_eq_true h1
    have h2' := of_decide_eq_true h2
    obtain ⟨p1, p2⟩ := dist_more hE h1'
    obtain ⟨q1, q2⟩ := dist_more hE h2'
    obtain ⟨r1, r2⟩ := dist_over hE (x := x) (by simp)
    obtain ⟨s1, s2⟩ := hG2.tri p1 r1
    obtain ⟨t1, t2⟩ := hG2.tri s1 q1
    exact ⟨decide_eq_true t1, by omega⟩
end Go.Proofs.YtdelkgfodeilkaaDoor
