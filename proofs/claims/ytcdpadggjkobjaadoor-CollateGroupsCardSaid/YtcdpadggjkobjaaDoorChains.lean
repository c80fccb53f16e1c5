/-
  CollateChains of layer 39, what it stands on. Conditions: none.
-/
import Derived.Test.YtcdpadggjkobjaaDoorOrdLaws
import Derived.Deep.DeepCutAuto
namespace Go.Proofs.YtcdpadggjkobjaaDoor
open Go.RowKit Go.Lib

theorem readRes_cases (gs : List (List ByteArray)) {s : ByteArray} (hs : s.size ≤ 65536) : (∃ es, readRes gs s = (0, es) ∧ parse gs s = some es) ∨ (readRes gs s = (10, []) ∧ parse gs s = none) := by
  rcases hp : parse gs s with _ | es
  · exact .inr ⟨readRes_none hp hs, rfl⟩
  · exact .inl ⟨es, readRes_some hp hs, rfl⟩
theorem orderRes_ok (l1 l2 : List (ByteArray × Int)) (s t : ByteArray) : orderRes (0, l1) (0, l2) s t = (beforeV (keyS l1) (keyS l2) s t, 0) := rfl
theorem orderRes_no1 (l : List (ByteArray × Int)) (r : Res) (s t : ByteArray) : orderRes (10, l) r s t = (0, 10) := rfl
theorem orderRes_no2 (l l' : List (ByteArray × Int)) (s t : ByteArray) : orderRes (0, l) (10, l') s t = (0, 10) := rfl
theorem sameRes_ok (l1 l2 : List (ByteArray × Int)) : sameRes (0, l1) (0, l2) = decide (keyS l1 = keyS l2) := rfl
theorem sameRes_no1 (l : List (ByteArray × Int)) (r : Res) : sameRes (10, l) r = false := rfl
theorem sameRes_no2 (l l' : List (ByteArray × Int)) : sameRes (0, l) (10, l') = false := rfl
theorem toList_eq_iff (s t : ByteArray) : (s.toList == t.toList) = decide (s = t) := by
  rw [Bool.eq_iff_iff, beq_iff_eq, decide_eq_true_iff, Lib.toList_data, Lib.toList_data]
  exact ⟨fun h => bl_inj h, fun h => by rw [h]⟩
/-- What the first test of the chain meets. -/
def Chain1 (good fine e f x y : Int) (b sm1 sm2 sm3 : Bool) : Prop :=
  (good = 0 ∧ fine = 0 ∧ e = 0 ∧ f = 0 ∧ ((x = -1 ∧ y = 1 ∧ b = false) ∨ (x = 0 ∧ y = 0 ∧ b = true) ∨ (x = 1 ∧ y = -1 ∧ b = false)) ∧ sm1 = sm2 ∧ sm3 = true) ∨
  (e = 10 ∧ f = 10 ∧ x = 0 ∧ y = 0 ∧ sm1 = sm2 ∧ ((good = 0 ∧ fine = 10 ∧ sm3 = true) ∨ (good = 10 ∧ fine = 0 ∧ sm3 = false) ∨ (good = 10 ∧ fine = 10 ∧ sm3 = false)))
theorem chain1 (gs : List (List ByteArray)) {s t : ByteArray} (hs : s.size ≤ 65536) (ht : t.size ≤ 65536) :
    Chain1 (readRes gs s).1 (readRes gs t).1 (orderRes (readRes gs s) (readRes gs t) s t).2 (orderRes (readRes gs t) (readRes gs s) t s).2 (orderRes (readRes gs s) (readRes gs t) s t).1 (orderRes (readRes gs t) (readRes gs s) t s).1
      (s.toList == t.toList) (sameRes (readRes gs s) (readRes gs t)) (sameRes (readRes gs t) (readRes gs s)) (sameRes (readRes gs s) (readRes gs s)) := by
  rw [toList_eq_iff]
  rcases readRes_cases gs hs with ⟨es, h1, p1⟩ | ⟨h1, _⟩ <;> rcases readRes_cases gs ht with ⟨et, h2, p2⟩ | ⟨h2, _⟩
  · refine .inl ?_
    rw [h1, h2]
    simp only [orderRes_ok, sameRes_ok]
    have ha := beforeV_anti (keyS es) (keyS et) s t
    have hz : beforeV (keyS es) (keyS et) s t = 0 ↔ s = t := ⟨beforeV_zero, fun e => by
      subst e; rw [p1] at p2; injection p2 with p2; subst p2; exact beforeV_self _ _⟩
    refine ⟨trivial, trivial, trivial, trivial, ?_, by rw [decide_eq_decide]; exact ⟨Eq.symm, Eq.symm⟩, by simp⟩
    rcases beforeV_range (keyS es) (keyS et) s t with h | h | h
    · refine .inl ⟨h, by omega, decide_eq_false (fun e => by rw [hz.2 e] at h; omega)⟩
    · exact .inr (.inl ⟨h, by omega, decide_eq_true (hz.1 h)⟩)
    · refine .inr (.inr ⟨h, by omega, decide_eq_false (fun e => by rw [hz.2 e] at h; omega)⟩)
  · refine .inr ?_
    rw [h1, h2]
    simp only [orderRes_no1, orderRes_no2, sameRes_no1, sameRes_no2, sameRes_ok]
    simp
  · refine .inr ?_
    rw [h1, h2]
    simp only [orderRes_no1, orderRes_no2, sameRes_no1, sameRes_no2]
    simp
  · refine .inr ?_
    rw [h1, h2]
    simp only [orderRes_no1, sameRes_no1]
    simp
/-- What the second one meets. -/
def Chain2 (e g h x z v : Int) : Prop :=
  (e = 0 ∧ g = 0 ∧ h = 0 ∧ (x = -1 ∨ x = 0 ∨ x = 1) ∧ (z = -1 ∨ z = 0 ∨ z = 1) ∧ (v = -1 ∨ v = 0 ∨ v = 1) ∧ ¬ (x ≤ 0 ∧ z ≤ 0 ∧ 0 < v) ∧ ¬ (0 ≤ x ∧ 0 ≤ z ∧ v < 0)) ∨ (e = 10) ∨ (e = 0 ∧ g = 10)
theorem chain2 (gs : List (List ByteArray)) {s t u : ByteArray} (hs : s.size ≤ 65536) (ht : t.size ≤ 65536) (hu : u.size ≤ 65536) :
    Chain2 (orderRes (readRes gs s) (readRes gs t) s t).2 (orderRes (readRes gs t) (readRes gs u) t u).2 (orderRes (readRes gs s) (readRes gs u) s u).2
      (orderRes (readRes gs s) (readRes gs t) s t).1 (orderRes (readRes gs t) (readRes gs u) t u).1 (orderRes (readRes gs s) (readRes gs u) s u).1 := by
  rcases readRes_cases gs hs with ⟨es, h1, _⟩ | ⟨h1, _⟩
  · rcases readRes_cases gs ht with ⟨et, h2, _⟩ | ⟨h2, _⟩
    · rcases readRes_cases gs hu with ⟨eu, h3, _⟩ | ⟨h3, _⟩
      · rw [h1, h2, h3]
        simp only [orderRes_ok]
        refine .inl ⟨rfl, rfl, rfl, beforeV_range _ _ _ _, beforeV_range _ _ _ _, beforeV_range _ _ _ _, ?_, ?_⟩
        · rintro ⟨a, b, c⟩
          have := beforeV_trans _ _ _ _ _ _ a b
          omega
        · rintro ⟨a, b, c⟩
          have h1 := beforeV_anti (keyS es) (keyS et) s t
          have h2 := beforeV_anti (keyS et) (keyS eu) t u
          have h3 := beforeV_anti (keyS es) (keyS eu) s u
          have := beforeV_trans (keyS eu) (keyS et) (keyS es) u t s (by omega) (by omega)
          omega
      · rw [h1, h2, h3]
        simp only [orderRes_ok, orderRes_no2]
        exact .inr (.inr ⟨rfl, rfl⟩)
    · rw [h1, h2]
      simp only [orderRes_no2]
      exact .inr (.inl rfl)
  · rw [h1]
    simp only [orderRes_no1]
    exact .inr (.inl rfl)
theorem chain1_more {good fine e f x y : Int} {b sm1 sm2 sm3 : Bool} (h : Chain1 good fine e f x y b sm1 sm2 sm3) :
    (good = 0 ∧ fine = 0 ∧ e = 0 ∧ f = 0 ∧ y = -x ∧ -1 ≤ x ∧ x ≤ 1 ∧ b = (x == 0) ∧ sm1 = sm2 ∧ sm3 = true) ∨ (e = 10 ∧ f = 10 ∧ x = 0 ∧ y = 0 ∧ sm1 = sm2 ∧ ((good = 0 ∧ fine = 10 ∧ sm3 = true) ∨ (good = 10 ∧ sm3 = false))) := by
  rcases h with ⟨h1, h2, h3, h4, h5, h6, h7⟩ | ⟨h1, h2, h3, h4, h5, h6⟩
  · refine .inl ⟨h1, h2, h3, h4, ?_⟩
    rcases h5 with ⟨rfl, rfl, rfl⟩ | ⟨rfl, rfl, rfl⟩ | ⟨rfl, rfl, rfl⟩
    · exact ⟨by omega, by omega, by omega, by decide, h6, h7⟩
    · exact ⟨by omega, by omega, by omega, by decide, h6, h7⟩
    · exact ⟨by omega, by omega, by omega, by decide, h6, h7⟩
  · refine .inr ⟨h1, h2, h3, h4, h5, ?_⟩
    rcases h6 with h | ⟨h7, _, h8⟩ | ⟨h7, _, h8⟩
    · exact .inl h
    · exact .inr ⟨h7, h8⟩
    · exact .inr ⟨h7, h8⟩
theorem chain2_more {e g h x z v : Int} (hc : Chain2 e g h x z v) :
    (e = 0 ∧ g = 0 ∧ h = 0 ∧ ((x = -1 ∧ z ≤ 0 ∧ v ≤ 0) ∨ (x = -1 ∧ 0 < z) ∨ (x = 1 ∧ 0 ≤ z ∧ 0 ≤ v) ∨ (x = 1 ∧ z < 0) ∨ (x = 0 ∧ z = -1 ∧ v ≤ 0) ∨ (x = 0 ∧ z = 1 ∧ 0 ≤ v) ∨ (x = 0 ∧ z = 0 ∧ v = 0))) ∨ (e = 10) ∨ (e = 0 ∧ g = 10) := by
  rcases hc with ⟨h1, h2, h3, hx, hz, hv, a, b⟩ | h | h
  · exact .inl ⟨h1, h2, h3, by omega⟩
  · exact .inr (.inl h)
  · exact .inr (.inr h)
theorem Reads.take {w : World} {B n k : Nat} {A : Option Addr} {xs : List Value} (h : Reads w B 1 A n xs) (hk : k ≤ n) : Reads w B 1 A k (xs.take k) := by
  refine ⟨by rw [List.length_take, h.1]; omega, fun hk0 => ?_⟩
  obtain ⟨ad, e, hb, hc⟩ := h.2 (by omega)
  refine ⟨ad, e, hb, fun j u hu => ?_⟩
  rw [List.getElem?_take] at hu
  split at hu
  · exact hc j u hu
  · cases hu
theorem letS_take (es : List (ByteArray × Int)) (k : Nat) : letS (es.take k) = (letS es).take k := by simp [letS, List.map_take]
theorem keyS_take (es : List (ByteArray × Int)) (k : Nat) : keyS (es.take k) = (keyS es).take k := by simp [keyS, List.map_take]
theorem join_empty (xs : List (List UInt8)) : Lib.join xs [] = xs.flatten := by
  cases xs with
  | nil => rfl
  | cons x r =>
    rw [Lib.join_cons]
    have : Lib.joinTail [] r = r.flatten := by unfold Lib.joinTail; simp
    rw [this]; rfl
theorem join_own (A : Option Addr) (n c B k : Nat) (es : List (ByteArray × Int)) (w : World) (h : OwnL w B A n c (letS es)) (hk : k ≤ n) (hnc : n ≤ c) (hn : n ≤ 65536) (hl : (joinE (es.take k)).length ≤ 65536) :
    Calls Tryd.prog 36 #[.slice A k c, .string ⟨#[]⟩] w fun e w' => e = .returned (.string (mkB (joinE (es.take k)))) ∧ Below w.heap.size w w' := by
  rcases Nat.eq_zero_or_pos k with rfl | hk0
  · refine (Tryd.strings_Join_none A c ⟨#[]⟩ w).mono ?_
    rintro e w' ⟨rfl, rfl⟩
    exact ⟨rfl, Below.refl _ _⟩
  · have hle := h.len
    obtain ⟨g, cap, hv, _, hlt⟩ := World.ownsRow.form h (by omega)
    injection hv with hv1 hv2 hv3
    subst hv1
    have hc := World.ownsRow.cells h (g := g) rfl
    have hlen : ((letS es).take k).length = k := by rw [List.length_take]; omega
    have hj : Lib.join (((letS es).take k).map (·.data.toList)) (⟨#[]⟩ : ByteArray).data.toList = joinE (es.take k) := by
      show Lib.join _ [] = _
      rw [join_empty, ← letS_take]
      simp only [letS, joinE, List.map_map]
      rfl
    have := Tryd.strings_Join g 0 c ((letS es).take k) ⟨#[]⟩ w (fun j x hx => by
      rw [Nat.zero_add]
      have h1 := hc j (.string x) (by
        rw [List.getElem?_take] at hx
        split at hx
        · rw [List.getElem?_map, hx]; rfl
        · cases hx)
      rw [add_at] at h1
      exact h1) hlt (by omega) (by omega) (by rw [hj]; omega)
    rw [hlen, hj] at this
    exact this
theorem take_order {gs : List (List ByteArray)} (hG : GoodG gs) {s : ByteArray} {es : List (ByteArray × Int)} {k : Nat} (hp : parse gs s = some es) (hk : k < es.length) (hs : s.size ≤ 65536) :
    (joinE (es.take k)).length ≤ s.size ∧ readRes gs (mkB (joinE (es.take k))) = (0, es.take k) ∧ orderRes (readRes gs (mkB (joinE (es.take k)))) (readRes gs s) (mkB (joinE (es.take k))) s = (-1, 0) := by
  have hl : (joinE (es.take k)).length ≤ s.size := by
    rw [← bl_len, parse_join hp]
    conv => rhs; rw [← List.take_append_drop k es]
    simp only [joinE, List.map_append, List.flatten_append, List.length_append]
    omega
  have h1 := readRes_some (parse_take hG k hp) (by rw [mkB_size]; omega)
  refine ⟨hl, h1, ?_⟩
  rw [h1, readRes_some hp hs, orderRes_ok, beforeV_eq, keyS_take]
  have : cmpL ((keyS es).take k) (keyS es) = -1 := cmpL_take _ k (by simp [keyS]; exact hk)
  rw [this, if_neg (by decide)]
end Go.Proofs.YtcdpadggjkobjaaDoor
