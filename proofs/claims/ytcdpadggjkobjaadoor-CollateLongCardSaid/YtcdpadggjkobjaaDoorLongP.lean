/-
  Plain facts of layer 39, for CollateLong: long texts, many letters, long lists. Conditions: none.
-/
import Derived.Test.YtcdpadggjkobjaaDoorHdP
import Derived.Lib.Repeat
namespace Go.Proofs.YtcdpadggjkobjaaDoor
open Go.RowKit Go.Lib

def xB : ByteArray := ⟨#[120]⟩
def repB (b : UInt8) (n : Nat) : ByteArray := ⟨(Lib.repeatL [b] n).toArray⟩
theorem repB_bl (b : UInt8) (n : Nat) : bl (repB b n) = List.replicate n b := by
  show Lib.repeatL [b] n = _
  have := Lib.repeatL_replicate b 1 n
  rwa [Nat.mul_one] at this
theorem repB_size (b : UInt8) (n : Nat) : (repB b n).size = n := by rw [← bl_len, repB_bl, List.length_replicate]
def xG : List (List ByteArray) := [[xB]]
theorem xG_eq : groupsB [xB] = xG := by decide +kernel
theorem xErr : newErr [xB] = 0 := by decide +kernel
theorem xGood : GoodG xG := ⟨by decide +kernel, by decide +kernel⟩
theorem longest_rep (n : Nat) : longest xG (repB 120 (n + 1)) = (xB, 0) :=
  longest_is xGood (e := (xB, 0)) (mem_ents.2 ⟨[xB], rfl, by simp⟩) (by
    rw [repB_bl, List.replicate_succ]
    exact ⟨List.replicate n 120, rfl⟩) (fun z hz _ => by
    have : z = xB := by simpa [xG] using hz
    subst this; exact Nat.le_refl _)
theorem parse_rep : ∀ n, parse xG (repB 120 n) = some (List.replicate n (xB, 0))
  | 0 => parse_nil xG (repB_size _ _)
  | n + 1 => by
    have hl := longest_rep n
    rw [parse_cons xG (by rw [repB_size]; omega) (by rw [hl]; decide), hl]
    have hd : dropB (repB 120 (n + 1)) xB.size = repB 120 n := bl_inj (by
      rw [bl_dropB, repB_bl, repB_bl, List.replicate_succ]; rfl)
    simp only
    rw [hd, parse_rep n]
    rfl
theorem readRes_rep {n : Nat} (h : n ≤ 65536) : readRes xG (repB 120 n) = (0, List.replicate n (xB, 0)) := readRes_some (parse_rep n) (by rw [repB_size]; exact h)
theorem readRes_long {n : Nat} (h : 65536 < n) : readRes xG (repB 120 n) = (11, []) := by unfold readRes; rw [if_pos (by rw [repB_size]; exact h)]
theorem readRes_x : readRes xG xB = (0, [(xB, 0)]) := by decide +kernel
theorem keyS_rep (n : Nat) : keyS (List.replicate n (xB, (0 : Int))) = List.replicate n 0 := by simp [keyS]
theorem order_long {n : Nat} (h : 65536 < n) : orderRes (readRes xG xB) (readRes xG (repB 120 n)) xB (repB 120 n) = (0, 11) := by rw [readRes_x, readRes_long h]; rfl
theorem order_rep {n : Nat} (h : n ≤ 65536) : ∃ v, orderRes (readRes xG xB) (readRes xG (repB 120 n)) xB (repB 120 n) = (v, 0) := by rw [readRes_x, readRes_rep h]; exact ⟨_, rfl⟩
theorem same_long {n : Nat} (h : 65536 < n) : sameRes (readRes xG (repB 120 n)) (readRes xG xB) = false := by rw [readRes_x, readRes_long h]; rfl

/-! Many letters. -/
def let8 (i : Nat) : ByteArray := ⟨#[UInt8.ofNat (97 + i % 16), UInt8.ofNat (97 + i / 16 % 16), UInt8.ofNat (97 + i / 256), 120, 121, 122, 45, 33]⟩
def lets (n : Nat) : List ByteArray := (List.range n).map let8
theorem lets_length (n : Nat) : (lets n).length = n := by simp [lets]
theorem lets_succ (n : Nat) : lets (n + 1) = lets n ++ [let8 n] := by simp [lets, List.range_succ]
theorem let8_bl (i : Nat) : bl (let8 i) = [UInt8.ofNat (97 + i % 16), UInt8.ofNat (97 + i / 16 % 16), UInt8.ofNat (97 + i / 256), 120, 121, 122, 45, 33] := rfl
theorem let8_size (i : Nat) : (let8 i).size = 8 := rfl
theorem u8_nat {n : Nat} (h : n < 256) : (UInt8.ofNat n).toNat = n := by rw [UInt8.toNat_ofNat', Nat.mod_eq_of_lt h]
theorem let8_big {i : Nat} (h : i < 2560) {c : UInt8} (hc : c ∈ bl (let8 i)) : 32 < c.toNat := by
  rw [let8_bl] at hc
  simp only [List.mem_cons, List.not_mem_nil, or_false] at hc
  rcases hc with rfl | rfl | rfl | rfl | rfl | rfl | rfl | rfl
  · rw [u8_nat (by omega)]; omega
  · rw [u8_nat (by omega)]; omega
  · rw [u8_nat (by omega)]; omega
  all_goals decide
theorem let8_inj {i j : Nat} (hi : i < 2560) (hj : j < 2560) (h : let8 i = let8 j) : i = j := by
  have hb := congrArg bl h
  rw [let8_bl, let8_bl] at hb
  simp only [List.cons.injEq] at hb
  obtain ⟨h1, h2, h3, _⟩ := hb
  have e1 := congrArg UInt8.toNat h1
  have e2 := congrArg UInt8.toNat h2
  have e3 := congrArg UInt8.toNat h3
  rw [u8_nat (by omega), u8_nat (by omega)] at e1 e2 e3
  omega
theorem let8_pieces {i : Nat} (h : i < 2560) : piecesB (let8 i) = [let8 i] := by
  unfold piecesB
  rw [piecesL_none (fun c hc e => by have := let8_big h hc; subst e; revert this; decide)]
  rw [List.map_singleton, mkB_bl]
theorem let8_letter {i : Nat} (h : i < 2560) : letterB (bl (let8 i)) = true := letterB_good (by rw [bl_len, let8_size]; omega) (by rw [bl_len, let8_size]; omega) (fun j hj => let8_big h (List.getElem_mem hj))
theorem lets_nodup {n : Nat} (h : n ≤ 2560) : (lets n).Nodup := by
  unfold lets
  rw [List.nodup_iff_pairwise_ne, List.pairwise_map]
  refine List.Pairwise.imp_of_mem (fun {a b} ha hb hab => ?_) (List.pairwise_lt_range (n := n))
  rw [List.mem_range] at ha hb
  intro e
  have := let8_inj (by omega) (by omega) e
  omega
theorem lets_groups {n : Nat} (h : n ≤ 2560) : groupsB (lets n) = (lets n).map fun x => [x] := by
  unfold groupsB
  refine List.map_congr_left fun x hx => ?_
  obtain ⟨i, hi, rfl⟩ := List.mem_map.1 hx
  rw [List.mem_range] at hi
  exact let8_pieces (by omega)
theorem flatten_singles {α : Type} (l : List α) : (l.map fun x => [x]).flatten = l := by induction l <;> simp_all
theorem lets_letters {n : Nat} (h : n ≤ 2560) : (lets n).all (fun x => letterB (bl x)) = true := by
  rw [List.all_eq_true]
  intro x hx
  obtain ⟨i, hi, rfl⟩ := List.mem_map.1 hx
  rw [List.mem_range] at hi
  exact let8_letter (by omega)
theorem err_of_flat {ss : List ByteArray} {n : Nat} (h : n ≤ 2560) (hf : (groupsB ss).flatten = lets n) : newErr ss = if 256 < n then 12 else 0 := by
  unfold newErr totalP
  rw [hf, lets_length, lets_letters h]
  have hd : dupB (lets n) = false := by unfold dupB; exact decide_eq_false (fun hn => hn (lets_nodup h))
  rw [hd]
  split <;> rfl
theorem lets_err {n : Nat} (h : n ≤ 2560) : newErr (lets n) = if 256 < n then 12 else 0 := err_of_flat h (by rw [lets_groups h, flatten_singles])
def joinB (n : Nat) : ByteArray := ⟨(Lib.join ((lets n).map (·.data.toList)) [32]).toArray⟩
theorem pieces_join : ∀ (xs : List Bs), xs ≠ [] → (∀ x ∈ xs, ∀ c ∈ x, c ≠ 32) → piecesL (Lib.join xs [32]) = xs
  | [], h, _ => absurd rfl h
  | [x], _, h => by rw [Lib.join_one]; exact piecesL_none (h x (by simp))
  | x :: y :: r, _, h => by
    have ih := pieces_join (y :: r) (by simp) (fun z hz => h z (List.mem_cons_of_mem _ hz))
    rw [Lib.join_cons]
    have : Lib.joinTail [32] (y :: r) = 32 :: Lib.join (y :: r) [32] := by
      rw [Lib.join_cons]; simp [Lib.joinTail]
    rw [this, piecesL_cut (h x (by simp)), ih]
theorem join_len (xs : List Bs) (h : ∀ x ∈ xs, x.length = 8) : (Lib.join xs [32]).length + 1 = 9 * xs.length ∨ xs = [] := by
  cases xs with
  | nil => exact .inr rfl
  | cons x r =>
    refine .inl ?_
    rw [Lib.join_cons, List.length_append, h x (by simp)]
    have : (Lib.joinTail [32] r).length = 9 * r.length := by
      have hr : ∀ y ∈ r, y.length = 8 := fun y hy => h y (List.mem_cons_of_mem _ hy)
      clear h
      induction r with
      | nil => rfl
      | cons y r ih =>
        have := ih (fun z hz => hr z (List.mem_cons_of_mem _ hz))
        have h8 := hr y (by simp)
        simp only [Lib.joinTail, List.map_cons, List.flatten_cons, List.length_append, List.length_cons] at this ⊢
        simp only [List.length_nil]; omega
    rw [this, List.length_cons]; omega
theorem joinB_pieces {n : Nat} (h : n ≤ 2560) (h0 : 0 < n) : piecesB (joinB n) = lets n := by
  unfold piecesB
  show (piecesL (Lib.join ((lets n).map (·.data.toList)) [32])).map mkB = lets n
  rw [pieces_join]
  · rw [List.map_map]
    conv => rhs; rw [← List.map_id (lets n)]
    exact List.map_congr_left fun x _ => mkB_bl x
  · intro e
    have := congrArg List.length e
    rw [List.length_map, lets_length] at this; simp at this; omega
  · intro x hx c hc e
    obtain ⟨y, hy, rfl⟩ := List.mem_map.1 hx
    obtain ⟨i, hi, rfl⟩ := List.mem_map.1 hy
    rw [List.mem_range] at hi
    have := let8_big (i := i) (by omega) (c := c) hc
    subst e; revert this; decide
theorem joinB_size (n : Nat) : (joinB n).size ≤ 9 * n := by
  have := join_len ((lets n).map (·.data.toList)) (fun x hx => by
    obtain ⟨y, hy, rfl⟩ := List.mem_map.1 hx
    obtain ⟨i, _, rfl⟩ := List.mem_map.1 hy
    rfl)
  rw [List.length_map, lets_length] at this
  show (Lib.join ((lets n).map (·.data.toList)) [32]).length ≤ _
  rcases this with h | h
  · omega
  · rw [h]; simp [Lib.join]
theorem joinB_groups {n : Nat} (h : n ≤ 2560) (h0 : 0 < n) : groupsB [joinB n] = [lets n] := by unfold groupsB; rw [List.map_singleton, joinB_pieces h h0]
theorem joinB_err {n : Nat} (h : n ≤ 2560) (h0 : 0 < n) : newErr [joinB n] = if 256 < n then 12 else 0 := err_of_flat h (by rw [joinB_groups h h0]; simp)
theorem totalS_lets (n : Nat) : totalS (lets n) = 8 * n := by
  induction n with
  | zero => rfl
  | succ n ih => rw [lets_succ, totalS_snoc, ih, let8_size]; omega

/-! Letters that are too long. -/
theorem qErr : ∀ n, n < 10 → 6 ≤ n → newErr [repB 113 n] = if n ≤ 8 then 0 else 15 := by decide +kernel

/-! Long lists. -/
def xs_ (n : Nat) : List ByteArray := List.replicate n xB
theorem errL_xs (n : Nat) : errL xG (xs_ n) = 0 := errL_zero.2 (fun s hs => by rw [List.eq_of_mem_replicate hs, readRes_x])
theorem entsL_xs (n : Nat) : entsL xG (xs_ n) = List.replicate n ([0], xB) := by
  unfold entsL xs_
  rw [List.map_replicate]
  congr 1
theorem sortE_xs (n : Nat) : sortE (List.replicate n (([0], xB) : Ent)) = List.replicate n ([0], xB) := by
  have := sortE_perm (List.replicate n (([0], xB) : Ent))
  exact List.perm_replicate.1 this
theorem sort_xs {n : Nat} (h : n ≤ 256) : sortRes xG (xs_ n) = (0, List.replicate n ([0], xB)) := by
  rw [sortRes_ok (by simp [xs_]; exact h) (errL_xs n), entsL_xs, sortE_xs]
theorem sort_many {n : Nat} (h : 256 < n) : sortRes xG (xs_ n) = (12, []) := sortRes_many (by simp [xs_]; exact h)
theorem sortT_xs {n : Nat} (h : n ≤ 256) : sortedT (sortResO (some xG) (xs_ n)) = (0, xs_ n) := by
  show sortedT (sortRes xG (xs_ n)) = _
  rw [sort_xs h]
  unfold sortedT textsE xs_
  rw [List.map_replicate]
theorem sortT_many {n : Nat} (h : 256 < n) : sortedT (sortResO (some xG) (xs_ n)) = (12, []) := by
  show sortedT (sortRes xG (xs_ n)) = _
  rw [sort_many h]; rfl
theorem firsts_xs (n : Nat) : firsts (List.replicate n (([0], xB) : Ent)) = List.replicate n 0 := by
  induction n with
  | zero => rfl
  | succ n ih => rw [List.replicate_succ, List.replicate_succ]; unfold firsts at ih ⊢; rw [List.filterMap_cons]; simp [ih]
theorem heads_xs {n : Nat} (h : n ≤ 256) (h0 : 0 < n) : headsResO (some xG) (xs_ n) = (0, [xB], [(n : Int)]) := by
  show ((sortRes xG (xs_ n)).1, headsL xG (if (sortRes xG (xs_ n)).1 = 0 then rleN xG.length (firsts (sortRes xG (xs_ n)).2) else []), countsL (if (sortRes xG (xs_ n)).1 = 0 then rleN xG.length (firsts (sortRes xG (xs_ n)).2) else [])) = _
  rw [sort_xs h]
  have hr : rleN xG.length (firsts (List.replicate n (([0], xB) : Ent))) = [(0, n)] := by
    rw [firsts_xs]
    show rleN 1 (List.replicate n (0 : Int)) = _
    unfold rleN
    rw [show List.range 1 = [0] from rfl, List.filterMap_cons, List.filterMap_nil]
    rw [show (List.replicate n (0 : Int)).count ((0 : Nat) : Int) = n by simp]
    rw [if_pos h0]
  simp only [if_true]
  rw [hr]
  rfl
theorem heads_many {n : Nat} (h : 256 < n) : headsResO (some xG) (xs_ n) = (12, [], []) := by
  show ((sortRes xG (xs_ n)).1, headsL xG (if (sortRes xG (xs_ n)).1 = 0 then rleN xG.length (firsts (sortRes xG (xs_ n)).2) else []), countsL (if (sortRes xG (xs_ n)).1 = 0 then rleN xG.length (firsts (sortRes xG (xs_ n)).2) else [])) = _
  rw [sort_many h]; rfl
end Go.Proofs.YtcdpadggjkobjaaDoor
