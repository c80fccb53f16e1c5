/-
  layer 36: what the outright laws say of the middle, of ways, of one more road. Plain facts of no program. Conditions: a map that New made.
-/
import Derived.Test.YtgimhjkijpcgjaaDoorGag
import Derived.Test.YtgimhjkijpcgjaaDoorGaf
import Derived.Test.YtgimhjkijpcgjaaDoorGai
import Derived.Test.YtgimhjkijpcgjaaDoorGad
import Derived.Deep.LoopGhost
import Derived.WalkKit
namespace Go.Proofs.YtgimhjkijpcgjaaDoor
open Go.RowKit Go.Lib

/-! The middle. -/
def allB (M : Pts) (j : Nat) : Prop := 0 < M.n ∧ ∀ i, i < j → labK M M.n i = 0
open Classical in
theorem middle_facts {M : Pts} (hM : GoodM M) : ∃ (a : Int) (ok : Bool), midO (some M) = (a, ok) ∧ (ok = true ↔ allB M M.n) ∧ (ok = false → a = 0) ∧
    (ok = true → ∃ b : Nat, a = (b : Int) ∧ b < M.n ∧ ∀ i, i < M.n → ¬ farK M i M.n < farK M b M.n ∧ (i < b → ¬ farK M i M.n = farK M b M.n)) := by
  show ∃ (a : Int) (ok : Bool), midS M = (a, ok) ∧ _
  have hall : (allM M ∧ 0 < M.n) ↔ allB M M.n := by
    constructor
    · rintro ⟨h1, h2⟩
      exact ⟨h2, (all_iff hM h2).1 h1⟩
    · rintro ⟨h1, h2⟩
      exact ⟨(all_iff hM h1).2 h2, h1⟩
  by_cases h : allM M ∧ 0 < M.n
  · refine ⟨(midK M M.n).1, true, by unfold midS; rw [if_pos h], ⟨fun _ => hall.1 h, fun _ => rfl⟩, fun e => (by cases e), fun _ => ?_⟩
    obtain ⟨b, hb, e1, e2, h1, h2⟩ := midK_best M M.n h.2
    refine ⟨b, e1, hb, fun i hi => ?_⟩
    rw [farK_ecc h.1 hi, farK_ecc h.1 hb]
    have := h1 i hi
    exact ⟨by omega, fun hib => by have := h2 i hib; omega⟩
  · exact ⟨0, false, by unfold midS; rw [if_neg h], ⟨fun e => (by cases e), fun e => absurd (hall.2 e) h⟩, fun _ => rfl, fun e => (by cases e)⟩
/-- The row of greatest distances while it is being filled: before point i all are there, at point i those of the first k. -/
noncomputable def farF (M : Pts) (i k : Nat) : Nat → Int := fun a => if a < i then farK M a M.n else if a = i then farK M a k else 0
theorem farF_start (M : Pts) : farF M 0 0 = fun _ => 0 := by
  funext a
  unfold farF
  rw [if_neg (Nat.not_lt_zero a)]
  split
  · exact farK_zero M a
  · rfl
theorem farF_here (M : Pts) (i k : Nat) : farF M i k i = farK M i k := by unfold farF; rw [if_neg (Nat.lt_irrefl i), if_pos rfl]
theorem farF_step (M : Pts) (i k : Nat) : setF (farF M i k) i (max (farK M i k) (max (distM M i k) 0)) = farF M i (k + 1) := by
  funext a
  unfold setF farF
  by_cases e : a = i
  · subst e
    rw [if_pos rfl, if_neg (Nat.lt_irrefl a), if_pos rfl, farK_succ]
  · rw [if_neg e, if_neg e, if_neg e]
theorem farF_next (M : Pts) (i : Nat) : farF M i M.n = farF M (i + 1) 0 := by
  funext a
  unfold farF
  by_cases h1 : a < i
  · rw [if_pos h1, if_pos (by omega)]
  · rw [if_neg h1]
    by_cases e : a = i
    · rw [if_pos e, if_pos (by omega)]
    · rw [if_neg e, if_neg (by omega)]
      split
      · exact (farK_zero M a).symm
      · rfl
theorem farF_end {M : Pts} {a : Nat} (h : a < M.n) : farF M M.n 0 a = farK M a M.n := by unfold farF; rw [if_pos h]
theorem farK_bound {M : Pts} (hM : GoodM M) {a : Nat} (ha : a < M.n) : ∀ k, 0 ≤ farK M a k ∧ farK M a k ≤ 137438953472 := by
  intro k
  induction k with
  | zero => rw [farK_zero]; omega
  | succ k ih =>
    have := hM.bound (v := k) ha
    rw [farK_succ]; omega
/-! Ways. -/
def StepW (M : Pts) (b x y : Nat) : Prop := ∃ l, edgeOf M x y l ∧ 0 ≤ distM M b y ∧ distM M b y + l = distM M b x ∧ ∀ e ∈ M.near.getD x [], e.1 < y → distM M b e.1 + e.2 ≠ distM M b x
def ChainW (M : Pts) (b : Nat) : List Nat → Prop
  | [] => False
  | [x] => x = b
  | x :: y :: l => StepW M b x y ∧ ChainW M b (y :: l)
theorem wayF_head (M : Pts) (b k x : Nat) : ∃ l, wayF M b k x = x :: l := by
  cases k with
  | zero => exact ⟨[], rfl⟩
  | succ k =>
    unfold wayF
    split
    · exact ⟨[], rfl⟩
    · split
      · exact ⟨_, rfl⟩
      · exact ⟨[], rfl⟩
theorem wayF_chain {M : Pts} (hM : GoodM M) {b : Nat} : ∀ (k at_ : Nat), 0 ≤ distM M b at_ → at_ < M.near.length → distM M b at_ ≤ k → ChainW M b (wayF M b k at_) := by
  intro k
  induction k with
  | zero =>
    intro at_ h0 hat h1
    obtain rfl := hM.zero (show distM M b at_ = 0 by omega)
    show at_ = at_
    rfl
  | succ k ih =>
    intro at_ h0 hat h1
    by_cases e : at_ = b
    · subst e
      unfold wayF
      rw [if_pos rfl]
      show at_ = at_
      rfl
    · obtain ⟨x, i, hi, hs, hx, hpre, he, hx0, hxe, hxn, hlt⟩ := step_some hM h0 e hat
      unfold wayF
      rw [if_neg e, hs]
      show ChainW M b (at_ :: wayF M b k x.1)
      have hc := ih x.1 hx0 (by rw [hM.len]; exact hxn) (by omega)
      obtain ⟨l, hl⟩ := wayF_head M b k x.1
      rw [hl] at hc ⊢
      refine ⟨⟨x.2, he, hx0, hxe, fun y hy hyx => ?_⟩, hc⟩
      rw [List.getD_eq_getElem?_getD, List.getElem?_eq_getElem hat] at hy
      obtain ⟨j, hj, rfl⟩ := List.getElem_of_mem (show y ∈ M.near[at_] from hy)
      have ho := hM.order at_ hat
      rw [List.pairwise_map] at ho
      have hji : j < i := by
        rcases Nat.lt_trichotomy j i with h | h | h
        · exact h
        · subst h; rw [hx] at hyx; omega
        · have := List.pairwise_iff_getElem.1 ho i j hi hj h
          rw [hx] at this; omega
      exact hpre j hji
theorem ChainW.at_ {M : Pts} {b : Nat} : ∀ {l : List Nat}, ChainW M b l → ∀ i (hi : i + 1 < l.length), StepW M b (l[i]'(by omega)) l[i + 1]
  | [], h, _, _ => h.elim
  | [x], _, i, hi => by simp at hi
  | x :: y :: l, h, 0, _ => h.1
  | x :: y :: l, h, i + 1, hi => ChainW.at_ h.2 i (by simp at hi ⊢; omega)
theorem ChainW.last {M : Pts} {b : Nat} : ∀ {l : List Nat}, ChainW M b l → ∃ h : 0 < l.length, l[l.length - 1]'(by omega) = b
  | [], h => h.elim
  | [x], h => ⟨by simp, h⟩
  | x :: y :: l, h => by
    obtain ⟨h1, h2⟩ := ChainW.last h.2
    refine ⟨by simp, ?_⟩
    rw [← h2]
    simp
theorem ChainW.falls {M : Pts} (hM : GoodM M) {b : Nat} : ∀ {l : List Nat}, ChainW M b l → l.Pairwise (fun x y => distM M b y < distM M b x)
  | [], h => h.elim
  | [x], _ => List.pairwise_singleton _ x
  | x :: y :: l, h => by
    have ih := ChainW.falls hM h.2
    obtain ⟨⟨e, he, h0, h1, _⟩, _⟩ := h
    have := hM.lens x y e he
    refine List.pairwise_cons.2 ⟨fun z hz => ?_, ih⟩
    rcases List.mem_cons.1 hz with rfl | hz
    · omega
    · have := (List.pairwise_cons.1 ih).1 z hz
      omega
theorem ChainW.all {M : Pts} (hM : GoodM M) {b : Nat} : ∀ {l : List Nat}, ChainW M b l → ∀ x, l[0]? = some x → x < M.n → 0 ≤ distM M b x → ∀ u ∈ l, u < M.n ∧ 0 ≤ distM M b u
  | [], h, _, _, _, _ => h.elim
  | [y], _, x, hx, hn, h0 => by
    intro u hu
    simp at hx hu
    subst hx hu
    exact ⟨hn, h0⟩
  | x :: y :: l, h, z, hz, hn, h0 => by
    have hzx : x = z := by simpa using hz
    subst hzx
    have hs := h.1
    obtain ⟨e, he, hy0, _, _⟩ := hs
    intro u hu
    rcases List.mem_cons.1 hu with rfl | hu
    · exact ⟨hn, h0⟩
    · exact ChainW.all hM h.2 y rfl (hM.lt he).2 hy0 u hu
structure WayOk (M : Pts) (a b : Nat) (P : List Nat) : Prop where
  pos : 0 < P.length
  few : P.length ≤ M.n
  first : P[0]? = some a
  last : P[P.length - 1]? = some b
  all : ∀ u ∈ P, u < M.n ∧ 0 ≤ distM M u b
  step : ∀ i (hi : i + 1 < P.length), ∃ l, edgeOf M (P[i]'(by omega)) P[i + 1] l ∧ 1 ≤ l ∧ distM M P[i + 1] b + l = distM M (P[i]'(by omega)) b ∧ ∀ e ∈ M.near.getD (P[i]'(by omega)) [], e.1 < P[i + 1] → distM M e.1 b + e.2 ≠ distM M (P[i]'(by omega)) b
theorem way_ok {M : Pts} (hM : GoodM M) {a b : Nat} (ha : a < M.n) (hb : b < M.n) (h0 : 0 ≤ distM M a b) : ∃ P : List Nat, wayO (some M) a b = P.map (fun (x : Nat) => (x : Int)) ∧ WayOk M a b P := by
  have h0' : 0 ≤ distM M b a := by rw [hM.symm]; exact h0
  have hin : inM M (a : Int) ∧ inM M (b : Int) := ⟨⟨by omega, by show (a : Int) < (M.n : Int); omega⟩, ⟨by omega, by show (b : Int) < (M.n : Int); omega⟩⟩
  refine ⟨wayF M b (distM M b a).toNat a, ?_, ?_⟩
  · show wayS M a b = _
    unfold wayS
    rw [if_pos hin, Int.toNat_natCast, Int.toNat_natCast]
    unfold wayL
    rw [if_pos h0']
  · have hc := wayF_chain hM (b := b) (distM M b a).toNat a h0' (by rw [hM.len]; exact ha) (by omega)
    obtain ⟨l, hl⟩ := wayF_head M b (distM M b a).toNat a
    generalize wayF M b (distM M b a).toNat a = P at hc hl
    have hf : P[0]? = some a := by rw [hl]; rfl
    have hall := hc.all hM a hf ha h0'
    obtain ⟨hp, hlast⟩ := hc.last
    refine ⟨hp, ?_, hf, ?_, fun u hu => ⟨(hall u hu).1, by rw [hM.symm]; exact (hall u hu).2⟩, fun i hi => ?_⟩
    · exact nodup_len M.n P ((hc.falls hM).imp (fun h e => by rw [e] at h; exact absurd h (Int.lt_irrefl _))) (fun x hx => (hall x hx).1)
    · rw [List.getElem?_eq_getElem (by omega), hlast]
    · obtain ⟨e, he, h1, h2, h3⟩ := hc.at_ i hi
      refine ⟨e, he, (hM.lens _ _ _ he).1, by rw [hM.symm _ b, hM.symm _ b]; exact h2, fun y hy hyx => ?_⟩
      rw [hM.symm _ b, hM.symm _ b]
      exact h3 y hy hyx
/-- The length of the last of the first roads that joins two points; 0: none. -/
def joins (x : Rd) (u v : Int) : Bool := (decide (x.1 = u) && decide (x.2.1 = v)) || (decide (x.2.1 = u) && decide (x.1 = v))
def lenR (roads : List Rd) (j : Nat) (u v : Int) : Int := (roads.take j).foldl (fun acc x => if joins x u v = true then x.2.2 else acc) 0
theorem lenR_zero (roads : List Rd) (u v : Int) : lenR roads 0 u v = 0 := rfl
theorem lenR_succ {roads : List Rd} {j : Nat} (hj : j < roads.length) (u v : Int) : lenR roads (j + 1) u v = if joins roads[j] u v = true then (roads[j]).2.2 else lenR roads j u v := by
  unfold lenR
  rw [List.take_succ_eq_append_getElem hj, List.foldl_append]; rfl
theorem foldl_last {p : Rd → Bool} {l : Int} : ∀ (L : List Rd) (acc : Int), (∀ x ∈ L, p x = true → x.2.2 = l) → (acc = l ∨ ∃ x ∈ L, p x = true) → L.foldl (fun acc x => if p x = true then x.2.2 else acc) acc = l
  | [], acc, _, h => by
    rcases h with h | ⟨x, hx, _⟩
    · exact h
    · cases hx
  | y :: L, acc, ha, h => by
    rw [List.foldl_cons]
    refine foldl_last L _ (fun x hx => ha x (List.mem_cons_of_mem _ hx)) ?_
    by_cases hy : p y = true
    · rw [if_pos hy]; exact .inl (ha y (List.mem_cons_self ..) hy)
    · rw [if_neg hy]
      rcases h with h | ⟨x, hx, hp⟩
      · exact .inl h
      · rcases List.mem_cons.1 hx with rfl | hx
        · exact absurd hp hy
        · exact .inr ⟨x, hx, hp⟩
theorem lenR_all {names : List ByteArray} {roads : List Rd} (hE : newE names roads = 0) {M : Pts} (hMM : newM names roads = M) {u v : Nat} {l : Int} (he : edgeOf M u v l) : lenR roads roads.length u v = l := by
  subst hMM
  unfold lenR
  rw [List.take_length]
  refine foldl_last roads 0 (fun x hx hp => ?_) (.inr ?_)
  · refine (good_new hE).func u v _ _ ((edge_new hE u v x.2.2).2 ⟨x, hx, ?_⟩) he
    unfold joins at hp
    simp only [Bool.or_eq_true, Bool.and_eq_true, decide_eq_true_iff] at hp
    rcases hp with ⟨h1, h2⟩ | ⟨h1, h2⟩
    · exact .inl ⟨h1, h2, rfl⟩
    · exact .inr ⟨h2, h1, rfl⟩
  · obtain ⟨x, hx, h⟩ := (edge_new hE u v l).1 he
    refine ⟨x, hx, ?_⟩
    unfold joins
    simp only [Bool.or_eq_true, Bool.and_eq_true, decide_eq_true_iff]
    rcases h with ⟨h1, h2, _⟩ | ⟨h1, h2, _⟩
    · exact .inl ⟨h1, h2⟩
    · exact .inr ⟨h2, h1⟩
/-! One more road. -/
theorem more_facts {names : List ByteArray} {roads : List Rd} {x : Rd} (hE : newE names (roads ++ [x]) = 0) {M M2 : Pts} (hM : newM names roads = M) (hM2 : newM names (roads ++ [x]) = M2) {a b : Nat} (ha : a < M.n) (hb : b < M.n) :
    M2.n = M.n ∧ ∃ (d : Int) (ok : Bool) (c : Int) (is_ : Bool) (p : Int) (pk : Bool) (q : Int) (qk : Bool), distO (some M) a b = (d, ok) ∧ distO (some M2) a b = (c, is_) ∧ distO (some M) a x.1 = (p, pk) ∧ distO (some M) x.2.1 b = (q, qk) ∧
      (ok = true → is_ = true ∧ c ≤ d) ∧ (pk = true → qk = true → is_ = true ∧ c ≤ p + x.2.2 + q) ∧ 0 ≤ p ∧ p ≤ 137438953472 ∧ 0 ≤ q ∧ q ≤ 137438953472 ∧ 1 ≤ x.2.2 ∧ x.2.2 ≤ 1073741824 := by
  subst hM hM2
  obtain ⟨hE1, hx⟩ := newE_less hE
  have hG := good_new hE1
  have hG2 := good_new hE
  obtain ⟨a0, a1, b0, b1, ne, l0, l1⟩ := hx
  refine ⟨rfl, ?_⟩
  have ha2 : a < (newM names (roads ++ [x])).n := ha
  have hb2 : b < (newM names (roads ++ [x])).n := hb
  have hA : x.1.toNat < (newM names roads).n := by show x.1.toNat < names.length; omega
  have hB : x.2.1.toNat < (newM names roads).n := by show x.2.1.toNat < names.length; omega
  have eA : (x.1 : Int) = (x.1.toNat : Int) := by omega
  have eB : (x.2.1 : Int) = (x.2.1.toNat : Int) := by omega
  have u1 := hG.bound (v := x.1.toNat) ha
  have u2 := hG.bound (v := b) hB
  have dA : distO (some (newM names roads)) a x.1 = (max (distM (newM names roads) a x.1.toNat) 0, decide (0 ≤ distM (newM names roads) a x.1.toNat)) := by
    conv => lhs; rw [eA]
    exact distO_in ha hA
  have dB : distO (some (newM names roads)) x.2.1 b = (max (distM (newM names roads) x.2.1.toNat b) 0, decide (0 ≤ distM (newM names roads) x.2.1.toNat b)) := by
    conv => lhs; rw [eB]
    exact distO_in hB hb
  refine ⟨_, _, _, _, _, _, _, _, distO_in ha hb, distO_in ha2 hb2, dA, dB, fun h => ?_, fun h1 h2 => ?_, by omega, by omega, by omega, by omega, l0, l1⟩
  · have h' := of_decide_eq_true h
    obtain ⟨h1, h2⟩ := dist_more hE h'
    exact ⟨decide_eq_true h1, by omega⟩
  · have h1' := of_decide_eq_true h1
    have h2' := of_decide_eq_true h2
    obtain ⟨p1, p2⟩ := dist_more hE h1'
    obtain ⟨q1, q2⟩ := dist_more hE h2'
    obtain ⟨r1, r2⟩ := dist_over hE (x := x) (by simp)
    obtain ⟨s1, s2⟩ := hG2.tri p1 r1
    obtain ⟨t1, t2⟩ := hG2.tri s1 q1
    exact ⟨decide_eq_true t1, by omega⟩
end Go.Proofs.YtgimhjkijpcgjaaDoor
namespace Go.Proofs.YtgimhjkijpcgjaaDoor
open Go.RowKit Go.Lib

/-- What New hands back. -/
def NewPost (w : World) (names : List ByteArray) (roads : List Rd) (e : Ending) (w' : World) : Prop :=
  (newE names roads ≠ 0 → e = .returned (.tuple #[.pointer none, .int .i64 (newE names roads)])) ∧
  (newE names roads = 0 → ∃ g, e = .returned (.tuple #[.pointer (some ⟨g, 0, none⟩), .int .i64 0]) ∧ MapAt w' g (newM names roads)) ∧ Below w.heap.size w w'
end Go.Proofs.YtgimhjkijpcgjaaDoor
namespace Go.Proofs.YtgimhjkijpcgjaaDoor
open Go.RowKit Go.Lib

/-- New's contract. -/
def NewAny : Prop := ∀ (A B : Option Addr) (n c m d : Nat) (names : List ByteArray) (roads : List Rd) (w : World), ReadS w w.heap.size A n names → Reads w w.heap.size 3 B m (roads.flatMap roadV) → (∀ s ∈ names, s.size ≤ maxLen) →
  Calls Tryd.prog 32 #[.slice A n c, .slice B m d] w (NewPost w names roads)
def fewB (n m : Nat) : Bool := (decide (n ≤ 30) && decide (m ≤ 100)) || (decide (128 < n) && decide (n < 140) && decide (m ≤ 600)) || (decide (n ≤ 140) && decide (512 < m) && decide (m ≤ 600))
end Go.Proofs.YtgimhjkijpcgjaaDoor
namespace Go.Proofs.YtgimhjkijpcgjaaDoor
open Go.RowKit Go.Lib

theorem nearL_in {M : Pts} {a : Nat} (ha : a < M.n) : nearL (some M) a = (M.near.getD a []).map (fun e => (e.1 : Int)) := by
  unfold nearL
  rw [if_pos ⟨by omega, by show (a : Int) < (M.n : Int); omega⟩, Int.toNat_natCast]; rfl
theorem nearL_mem {M : Pts} {a v : Nat} {l : Int} (ha : a < M.n) (h : edgeOf M a v l) : ((v : Int)) ∈ nearL (some M) a := by
  obtain ⟨hu, hm⟩ := h
  rw [nearL_in ha, List.getD_eq_getElem?_getD, List.getElem?_eq_getElem hu]
  exact List.mem_map.2 ⟨(v, l), hm, rfl⟩
/-- The counts as they lie in memory. -/
structure CntM (t : TypeId) (w wr : World) (q N : Nat) (f : Nat → Int) : Prop where
  row : Blk wr q t (rowA N f).toArray
  below : Below w.heap.size w wr
  hq : w.heap.size ≤ q
section
variable {t : TypeId} {w wr w' : World} {q N : Nat} {f : Nat → Int}
theorem CntM.later (h : CntM t w wr q N f) (hb : Below wr.heap.size wr w') : CntM t w w' q N f := ⟨h.row.below hb h.row.lt, h.below.trans (hb.mono h.below.size), h.hq⟩
theorem CntM.alloc (h : CntM t w wr q N f) (o : Obj) : CntM t w (wr.alloc o) q N f := h.later ((Below.refl _ _).alloc (Nat.le_refl _) o)
theorem CntM.set_ (h : CntM t w wr q N f) {x : Nat} (hx : x < N) (d : Int) : CntM t w (wr.setCell ⟨q, x, none⟩ (.int .i64 d)) q N (setF f x d) :=
  ⟨by rw [← rowA_set f hx]; exact h.row.set_ x _, h.below.setCell (p := ⟨q, x, none⟩) h.hq _, h.hq⟩
theorem CntM.cell (h : CntM t w wr q N f) {x : Nat} (hx : x < N) : wr.cell? ⟨q, x, none⟩ = some (.int .i64 (f x)) := (Blk.cell h.row x).trans (rowA_get f hx)
theorem CntM.start (t : TypeId) (w : World) (N : Nat) : CntM t w (w.alloc (.cells (madeCells #[.int .i64 0] N) t)) w.heap.size N (fun _ => 0) := by
  refine ⟨?_, (Below.refl _ w).alloc (Nat.le_refl _) _, Nat.le_refl _⟩
  have : madeCells #[.int .i64 0] N = (rowA N (fun _ => 0)).toArray := by
    rw [madeCells_zero, show fillF 0 = fun _ => (0 : Int) from by funext v; unfold fillF; rw [if_neg (Nat.not_lt_zero v)]]
  rw [this]; exact Blk.new w _ _
end
end Go.Proofs.YtgimhjkijpcgjaaDoor
namespace Go.Proofs.YtgimhjkijpcgjaaDoor
open Go.RowKit

theorem mod_pick (x : UInt8) {n : Nat} (h : ¬ n = 0) : ∃ a : Nat, a < n ∧ (wrap64 (x.toNat : Int)).tmod (n : Int) = (a : Int) := by
  have hx := x.toNat_lt
  refine ⟨x.toNat % n, Nat.mod_lt _ (by omega), ?_⟩
  rw [show wrap64 (x.toNat : Int) = x.toNat by unfold wrap64; omega, Int.ofNat_tmod]
theorem add_nextP (a : Addr) (n j : Nat) : a.add (n + (j + 1)) = ⟨(a.add n).block, (a.add n).off + (j + 1), none⟩ := by
  unfold Addr.add
  by_cases h : n = 0
  · subst h; simp
  · simp [h, Nat.add_assoc]
theorem add_succP (a : Addr) (n : Nat) : a.add (n + 1) = ⟨a.block, a.off + (n + 1), none⟩ := by unfold Addr.add; simp
end Go.Proofs.YtgimhjkijpcgjaaDoor
namespace Go.Proofs.YtgimhjkijpcgjaaDoor
open Go.RowKit Go.Lib

/-- The three numbers of a road. -/
theorem road_cells {w wr : World} {B : Option Addr} {m j : Nat} {roads : List Rd} (hR : Reads w w.heap.size 3 B m (roads.flatMap roadV)) (hrl : roads.length = m) (hb : Below w.heap.size w wr) (hj : j < roads.length) :
    ∃ (bd : Addr) (x y l : Int), B = some bd ∧ roads[j] = (x, y, l) ∧ wr.cell? (bd.add (j * 3)) = some (.int .i64 x) ∧ wr.cell? ⟨(bd.add (j * 3)).block, (bd.add (j * 3)).off + 1, none⟩ = some (.int .i64 y) ∧
      wr.cell? ⟨(bd.add (j * 3)).block, (bd.add (j * 3)).off + 2, none⟩ = some (.int .i64 l) := by
  obtain ⟨bd, rfl, hbd', hcell⟩ := hR.2 (by omega)
  obtain ⟨x, y, l, ex⟩ : ∃ x y l, roads[j] = (x, y, l) := ⟨_, _, _, rfl⟩
  have hg0 := flatMap_get roadV 3 (fun _ => rfl) roads (j * 3) (by omega)
  have hg1 := flatMap_get roadV 3 (fun _ => rfl) roads (j * 3 + 1) (by omega)
  have hg2 := flatMap_get roadV 3 (fun _ => rfl) roads (j * 3 + 2) (by omega)
  rw [show j * 3 / 3 = j by omega, show j * 3 % 3 = 0 by omega, getElem!_pos roads j hj, ex] at hg0
  rw [show (j * 3 + 1) / 3 = j by omega, show (j * 3 + 1) % 3 = 1 by omega, getElem!_pos roads j hj, ex] at hg1
  rw [show (j * 3 + 2) / 3 = j by omega, show (j * 3 + 2) % 3 = 2 by omega, getElem!_pos roads j hj, ex] at hg2
  have hc0 := (hb.cell (p := bd.add (j * 3)) (by rw [block_of_add]; exact hbd')).trans (hcell _ _ hg0)
  have hc1 := (hb.cell (p := bd.add (j * 3 + 1)) (by rw [block_of_add]; exact hbd')).trans (hcell _ _ hg1)
  have hc2 := (hb.cell (p := bd.add (j * 3 + 2)) (by rw [block_of_add]; exact hbd')).trans (hcell _ _ hg2)
  simp only [roadV, List.getElem!_cons_zero, List.getElem!_cons_succ] at hc0 hc1 hc2
  rw [add_nextP bd (j * 3) 0] at hc1
  rw [add_nextP bd (j * 3) 1] at hc2
  exact ⟨bd, x, y, l, rfl, ex, hc0, hc1, hc2⟩
/-- The points of a way as they lie in memory. -/
theorem way_cell {w wr : World} {base q c : Nat} {P : List Nat} (h : w.ownsRow base 3 1 (.slice (some ⟨q, 0, none⟩) P.length c) P.length ((P.map fun (x : Nat) => (x : Int)).map (Value.int .i64))) (hb : Below w.heap.size w wr) {i : Nat} (hi : i < P.length) :
    wr.cell? ⟨q, i, none⟩ = some (.int .i64 ((P[i] : Nat) : Int)) := by
  have hlt : q < w.heap.size := by
    rcases h.2 with ⟨h', hn⟩ | ⟨q', cap, cur, h', hb', hg, _⟩
    · omega
    · simp only [Value.slice.injEq, true_and] at h'
      obtain ⟨h1, _⟩ := h'
      simp only [Option.some.injEq, Addr.mk.injEq] at h1
      rw [h1.1]
      exact (Array.getElem?_eq_some_iff.1 hg).1
  rw [hb.cell (p := ⟨q, i, none⟩) hlt, h.cellAt i (by omega)]
  simp [hi]
/-- The numbers of what is near, as they lie in memory. -/
theorem edge_near {M : Pts} {a : Nat} (ha : a < M.n) {k : Nat} (hk : k < (nearL (some M) a).length) : ∃ (v : Nat) (l : Int), (nearL (some M) a)[k] = (v : Int) ∧ edgeOf M a v l ∧ (v, l) ∈ M.near.getD a [] := by
  have e := nearL_in ha
  have hm : (nearL (some M) a)[k] ∈ nearL (some M) a := List.getElem_mem hk
  generalize (nearL (some M) a)[k] = x at hm
  rw [e] at hm
  obtain ⟨⟨v, l⟩, hv, rfl⟩ := List.mem_map.1 hm
  refine ⟨v, l, rfl, ?_, hv⟩
  rw [List.getD_eq_getElem?_getD] at hv
  cases hq : M.near[a]? with
  | none => rw [hq] at hv; cases hv
  | some r =>
    rw [hq] at hv
    obtain ⟨h1, h2⟩ := List.getElem?_eq_some_iff.1 hq
    exact ⟨h1, by rw [h2]; exact hv⟩
/-- A way, by its places. -/
structure WayPt (M : Pts) (a b len : Nat) (pt : Nat → Nat) : Prop where
  pos : 0 < len
  few : len ≤ M.n
  first : pt 0 = a
  last : pt (len - 1) = b
  all : ∀ t, t < len → pt t < M.n ∧ 0 ≤ distM M (pt t) b
  step : ∀ t, t + 1 < len → ∃ l, edgeOf M (pt t) (pt (t + 1)) l ∧ 1 ≤ l ∧ distM M (pt (t + 1)) b + l = distM M (pt t) b ∧ ∀ e ∈ M.near.getD (pt t) [], e.1 < pt (t + 1) → distM M e.1 b + e.2 ≠ distM M (pt t) b
theorem getD_at {P : List Nat} {t : Nat} (h : t < P.length) : P.getD t 0 = P[t] := by rw [List.getD_eq_getElem?_getD, List.getElem?_eq_getElem h]; rfl
theorem WayOk.pts {M : Pts} {a b : Nat} {P : List Nat} (h : WayOk M a b P) : WayPt M a b P.length (fun t => P.getD t 0) := by
  refine ⟨h.pos, h.few, ?_, ?_, fun t ht => ?_, fun t ht => ?_⟩
  · show P.getD 0 0 = a
    rw [List.getD_eq_getElem?_getD, h.first]; rfl
  · show P.getD (P.length - 1) 0 = b
    rw [List.getD_eq_getElem?_getD, h.last]; rfl
  · show P.getD t 0 < M.n ∧ 0 ≤ distM M (P.getD t 0) b
    rw [getD_at ht]
    exact h.all _ (List.getElem_mem ht)
  · have := h.step t ht
    show ∃ l, edgeOf M (P.getD t 0) (P.getD (t + 1) 0) l ∧ 1 ≤ l ∧ distM M (P.getD (t + 1) 0) b + l = distM M (P.getD t 0) b ∧ ∀ e ∈ M.near.getD (P.getD t 0) [], e.1 < P.getD (t + 1) 0 → distM M e.1 b + e.2 ≠ distM M (P.getD t 0) b
    rw [getD_at ht, getD_at (show t < P.length by omega)]
    exact this
theorem way_none {M : Pts} (hM : GoodM M) {a b : Nat} (h : ¬ 0 ≤ distM M a b) : wayO (some M) a b = [] := by
  show wayS M a b = []
  unfold wayS
  split
  · unfold wayL
    rw [Int.toNat_natCast, Int.toNat_natCast, if_neg (by rw [hM.symm]; exact h)]; rfl
  · rfl
end Go.Proofs.YtgimhjkijpcgjaaDoor
namespace Go.Proofs.YtgimhjkijpcgjaaDoor
open Go.RowKit Go.Lib

/-- Made by New. -/
def NewO (om : Option Pts) : Prop := ∀ M, om = some M → ∃ names roads, newE names roads = 0 ∧ M = newM names roads
theorem NewO.good {om : Option Pts} (h : NewO om) : GoodO om := fun M e => by
  obtain ⟨names, roads, h1, rfl⟩ := h M e
  exact good_new h1
/-- The length of the first road that joins two points; 0: none. -/
def roadF (roads : List Rd) (a b : Int) : Int := ((roads.find? fun x => joins x a b).map fun x => x.2.2).getD 0
theorem roadF_hit {roads : List Rd} {k : Nat} (hk : k < roads.length) {a b : Int} (h : ∀ i (hi : i < k), ¬ joins (roads[i]'(by omega)) a b = true) (hj : joins roads[k] a b = true) : roadF roads a b = (roads[k]).2.2 := by
  have : roads.find? (fun x => joins x a b) = some roads[k] := by
    rw [List.find?_eq_some_iff_getElem]
    exact ⟨hj, k, hk, rfl, fun j hj' => by simpa using h j hj'⟩
  unfold roadF
  rw [this]; rfl
theorem roadF_miss {roads : List Rd} {a b : Int} (h : ∀ i (hi : i < roads.length), ¬ joins roads[i] a b = true) : roadF roads a b = 0 := by
  have : roads.find? (fun x => joins x a b) = none := by
    rw [List.find?_eq_none]
    intro x hx
    obtain ⟨i, hi, rfl⟩ := List.getElem_of_mem hx
    exact h i hi
  unfold roadF
  rw [this]; rfl
theorem joins_road {x : Rd} {u v : Nat} : joins x u v = true ↔ isRoad x u v x.2.2 := by
  unfold joins isRoad
  simp only [Bool.or_eq_true, Bool.and_eq_true, decide_eq_true_iff]
  constructor
  · rintro (⟨h1, h2⟩ | ⟨h1, h2⟩)
    · exact .inl ⟨h1, h2, trivial⟩
    · exact .inr ⟨h2, h1, trivial⟩
  · rintro (⟨h1, h2, _⟩ | ⟨h1, h2, _⟩)
    · exact .inl ⟨h1, h2⟩
    · exact .inr ⟨h2, h1⟩
theorem roadF_edge {names : List ByteArray} {roads : List Rd} (hE : newE names roads = 0) {u v : Nat} {l : Int} (he : edgeOf (newM names roads) u v l) : roadF roads u v = l := by
  cases hf : roads.find? (fun x => joins x u v) with
  | none =>
    obtain ⟨x, hx, hr⟩ := (edge_new hE u v l).1 he
    rw [List.find?_eq_none] at hf
    have h2 : isRoad x u v x.2.2 := by unfold isRoad at hr ⊢; omega
    exact absurd (joins_road.2 h2) (by simpa using hf x hx)
  | some x =>
    unfold roadF
    rw [hf]
    show x.2.2 = l
    have h1 := joins_road.1 (List.find?_some (p := fun x => joins x u v) hf)
    exact (good_new hE).func u v _ _ ((edge_new hE u v x.2.2).2 ⟨x, List.mem_of_find?_eq_some hf, h1⟩) he
theorem roadF_pos {names : List ByteArray} {roads : List Rd} (hE : newE names roads = 0) {u v : Nat} : 0 < roadF roads u v ↔ ∃ l, edgeOf (newM names roads) u v l := by
  constructor
  · intro h
    cases hf : roads.find? (fun x => joins x u v) with
    | none => unfold roadF at h; rw [hf] at h; exact absurd h (by decide)
    | some x => exact ⟨x.2.2, (edge_new hE u v x.2.2).2 ⟨x, List.mem_of_find?_eq_some hf, joins_road.1 (List.find?_some (p := fun x => joins x u v) hf)⟩⟩
  · rintro ⟨l, he⟩
    rw [roadF_edge hE he]
    have := (good_new hE).lens _ _ _ he
    omega
theorem roadF_bound {names : List ByteArray} {roads : List Rd} (hE : newE names roads = 0) (u v : Nat) : 0 ≤ roadF roads u v ∧ roadF roads u v ≤ 1073741824 := by
  by_cases h : 0 < roadF roads u v
  · obtain ⟨l, he⟩ := (roadF_pos hE).1 h
    rw [roadF_edge hE he]
    have := (good_new hE).lens _ _ _ he
    omega
  · cases hf : roads.find? (fun x => joins x u v) with
    | none => unfold roadF; rw [hf]; exact ⟨Int.le_refl _, by decide⟩
    | some x =>
      have he := (edge_new hE u v x.2.2).2 ⟨x, List.mem_of_find?_eq_some hf, joins_road.1 (List.find?_some (p := fun x => joins x u v) hf)⟩
      exact absurd ((roadF_pos hE).2 ⟨_, he⟩) h
/-- What is near, in order. -/
theorem near_roads {names : List ByteArray} {roads : List Rd} (hE : newE names roads = 0) {a : Nat} (ha : a < names.length) :
    ((newM names roads).near.getD a []).map (·.1) = (List.range names.length).filter fun (b : Nat) => decide (0 < roadF roads a b) := by
  have hG := good_new hE
  have ha' : a < (newM names roads).near.length := by rw [hG.len]; exact ha
  have e : (newM names roads).near.getD a [] = (newM names roads).near[a] := by rw [List.getD_eq_getElem?_getD, List.getElem?_eq_getElem ha']; rfl
  rw [e]
  refine List.Perm.eq_of_pairwise (le := fun x y : Nat => x < y) (fun x y _ _ h1 h2 => absurd h1 (Nat.lt_asymm h2)) (hG.order a ha') (List.Pairwise.filter _ List.pairwise_lt_range) ?_
  have n1 : ((newM names roads).near[a].map (·.1)).Nodup := (hG.order a ha').imp (fun h => Nat.ne_of_lt h)
  have n2 : ((List.range names.length).filter fun (b : Nat) => decide (0 < roadF roads a b)).Nodup := List.nodup_range.filter _
  rw [List.perm_ext_iff_of_nodup n1 n2]
  intro v
  rw [List.mem_filter, List.mem_range, decide_eq_true_iff, roadF_pos hE, List.mem_map]
  constructor
  · rintro ⟨⟨v', l⟩, hm, rfl⟩
    have he : edgeOf (newM names roads) a v' l := ⟨ha', hm⟩
    exact ⟨(hG.lt he).2, l, he⟩
  · rintro ⟨_, l, hu, hm⟩
    exact ⟨(v, l), hm, rfl⟩
/-- One more number of those that a test lets by. -/
theorem filter_range_succ (p : Nat → Bool) (k : Nat) : (List.range (k + 1)).filter p = (List.range k).filter p ++ if p k = true then [k] else [] := by
  rw [List.range_succ, List.filter_append]
  congr 1
  cases h : p k <;> simp [h]
theorem filter_range_len (p : Nat → Bool) (k : Nat) : ((List.range k).filter p).length ≤ k := by
  have := List.length_filter_le p (List.range k)
  rwa [List.length_range] at this
abbrev intsL (l : List Nat) : List Int := l.map fun (x : Nat) => (x : Int)
end Go.Proofs.YtgimhjkijpcgjaaDoor
