/-
  Layer 4, plainly: what is read of a text that is cut, or lengthened; units; words that are written. Conditions: symbols and marks hold no dot.
-/
import Derived.Test.YtohggdfplmlinaaGreatDoorZaac
namespace Go.Proofs.YtohggdfplmlinaaGreatDoor

/-- Symbols and marks hold no dot, and are not empty. -/
structure NoDot (L : List Nam) (ms : List Mk) : Prop where
  sym : ∀ x ∈ L, (46 : UInt8) ∉ bs x.1
  mark : ∀ m ∈ ms, (46 : UInt8) ∉ bs m.text
/-- What cannot go on a symbol or a mark. -/
def stopR (r : List UInt8) : Prop := r = [] ∨ r.head? = some 46
section
variable {L : List Nam} {ms : List Mk}
theorem hasSym_dot (h : NoDot L ms) {t : List UInt8} (ht : (46 : UInt8) ∈ t) : hasSym L t = false := by
  unfold hasSym
  rw [List.any_eq_false]
  intro x hx
  rw [decide_eq_true_eq]
  intro e
  exact h.sym x hx (e ▸ ht)
theorem symAt_in {a r : List UInt8} {n : Nat} (hn : n ≤ a.length) : symAt L (a ++ r) n = symAt L a n := by
  unfold symAt
  rw [List.take_append_of_le_length hn, decide_eq_true (by rw [List.length_append]; omega : n ≤ (a ++ r).length), decide_eq_true hn]
theorem symAt_out {a : List UInt8} {n : Nat} (hn : a.length < n) : symAt L a n = false := by
  unfold symAt
  rw [decide_eq_false (by omega)]; rfl
theorem stop_take {a r : List UInt8} {n : Nat} (hs : stopR r) (hn : a.length < n) (hl : n ≤ (a ++ r).length) : (46 : UInt8) ∈ (a ++ r).take n := by
  rw [List.length_append] at hl
  rcases hs with rfl | hs
  · simp at hl; omega
  · cases r with
    | nil => cases hs
    | cons c r =>
      injection hs with hs
      subst hs
      rw [List.take_append, List.mem_append]
      refine .inr ?_
      obtain ⟨k, hk⟩ : ∃ k, n - a.length = k + 1 := ⟨n - a.length - 1, by omega⟩
      rw [hk, List.take_succ_cons]
      exact List.mem_cons_self
theorem symAt_stop (h : NoDot L ms) {a r : List UInt8} (hs : stopR r) (n : Nat) : symAt L (a ++ r) n = symAt L a n := by
  by_cases hn : n ≤ a.length
  · exact symAt_in hn
  · rw [symAt_out (a := a) (by omega)]
    unfold symAt
    by_cases hl : n ≤ (a ++ r).length
    · rw [hasSym_dot h (stop_take hs (by omega) hl), Bool.and_false]
    · rw [decide_eq_false hl]; rfl
theorem longN_stop (h : NoDot L ms) {a r : List UInt8} (hs : stopR r) : longN L (a ++ r) = longN L a := by
  unfold longN
  simp only [symAt_stop h hs]
theorem longN_cut {a r : List UInt8} {n : Nat} (h : longN L (a ++ r) = n) (hn : n ≤ a.length) : longN L a = n := by
  have hS : ∀ m, symAt L a m = true → symAt L (a ++ r) m = true := fun m hm => by
    by_cases h : m ≤ a.length
    · rw [symAt_in h]; exact hm
    · rw [symAt_out (by omega)] at hm; cases hm
  have hE : ∀ m, m ≤ n → symAt L a m = symAt L (a ++ r) m := fun m hm => (symAt_in (by omega)).symm
  unfold longN at h ⊢
  have s4 := hS 4; have s3 := hS 3; have s2 := hS 2; have s1 := hS 1
  have e4 := hE 4; have e3 := hE 3; have e2 := hE 2; have e1 := hE 1
  split at h
  · rename_i h4
    subst h
    rw [if_pos ((e4 (Nat.le_refl _)).trans h4)]
  rename_i h4
  rw [if_neg (fun h => h4 (s4 h))]
  split at h
  · rename_i h3
    subst h
    rw [if_pos ((e3 (Nat.le_refl _)).trans h3)]
  rename_i h3
  rw [if_neg (fun h => h3 (s3 h))]
  split at h
  · rename_i h2
    subst h
    rw [if_pos ((e2 (Nat.le_refl _)).trans h2)]
  rename_i h2
  rw [if_neg (fun h => h2 (s2 h))]
  split at h
  · rename_i h1
    subst h
    rw [if_pos ((e1 (Nat.le_refl _)).trans h1)]
  rename_i h1
  rw [if_neg (fun h => h1 (s1 h))]
  exact h
theorem pre_stop {p a r : List UInt8} (hp : (46 : UInt8) ∉ p) (hs : stopR r) : p.isPrefixOf (a ++ r) = p.isPrefixOf a := by
  rw [Bool.eq_iff_iff, List.isPrefixOf_iff_prefix, List.isPrefixOf_iff_prefix]
  constructor
  · intro h
    have hl := h.length_le
    by_cases hn : p.length ≤ a.length
    · rw [List.prefix_iff_eq_take] at h
      rw [h, List.take_append_of_le_length hn]
      exact List.take_prefix _ _
    · exfalso
      rw [List.prefix_iff_eq_take] at h
      apply hp
      rw [h]
      exact stop_take hs (by omega) hl
  · exact fun h => h.trans (List.prefix_append _ _)
theorem markS_stop (h : NoDot L ms) {a r : List UInt8} (hs : stopR r) : ∀ (l : List Mk) (b : Option Mk), (∀ m ∈ l, m ∈ ms) → l.foldl (markS (a ++ r)) b = l.foldl (markS a) b
  | [], _, _ => rfl
  | m :: l, b, hl => by
    rw [List.foldl_cons, List.foldl_cons]
    have e : markS (a ++ r) b m = markS a b m := by
      unfold markS
      rw [pre_stop (h.mark m (hl m List.mem_cons_self)) hs]
    rw [e]
    exact markS_stop h hs l _ (fun m hm => hl m (List.mem_cons_of_mem _ hm))
theorem markAt_stop (h : NoDot L ms) {a r : List UInt8} (hs : stopR r) : markAt ms (a ++ r) = markAt ms a := markS_stop h hs ms none (fun _ h => h)
theorem markS_len (t : List UInt8) (b : Option Mk) (x : Mk) : mkLen b ≤ mkLen (markS t b x) := by
  unfold markS
  split
  · rename_i h
    simp only [Bool.and_eq_true, decide_eq_true_eq] at h
    exact Nat.le_of_lt h.2
  · exact Nat.le_refl _
theorem markF_len (t : List UInt8) : ∀ (l : List Mk) (b : Option Mk), mkLen b ≤ mkLen (l.foldl (markS t) b)
  | [], _ => Nat.le_refl _
  | x :: l, b => Nat.le_trans (markS_len t b x) (markF_len t l _)
theorem size_bs' (s : ByteArray) : (bs s).length = s.size := by unfold bs; exact Array.length_toList
theorem markS_cut {a r : List UInt8} {b : Option Mk} {x : Mk} (h : mkLen (markS (a ++ r) b x) ≤ a.length) : markS a b x = markS (a ++ r) b x := by
  unfold markS at h ⊢
  by_cases hc : ((bs x.text).isPrefixOf (a ++ r) && decide (mkLen b < x.text.size)) = true
  · rw [if_pos hc] at h ⊢
    simp only [Bool.and_eq_true, decide_eq_true_eq, List.isPrefixOf_iff_prefix] at hc
    have hx : x.text.size ≤ a.length := h
    rw [if_pos]
    simp only [Bool.and_eq_true, decide_eq_true_eq, List.isPrefixOf_iff_prefix]
    refine ⟨?_, hc.2⟩
    have h1 := hc.1
    rw [List.prefix_iff_eq_take] at h1
    rw [h1, List.take_append_of_le_length (by rw [size_bs']; exact hx)]
    exact List.take_prefix _ _
  · rw [if_neg hc, if_neg]
    intro h2
    apply hc
    simp only [Bool.and_eq_true, decide_eq_true_eq, List.isPrefixOf_iff_prefix] at h2 ⊢
    exact ⟨h2.1.trans (List.prefix_append _ _), h2.2⟩
theorem markF_cut {a r : List UInt8} : ∀ (l : List Mk) (b : Option Mk), mkLen (l.foldl (markS (a ++ r)) b) ≤ a.length → l.foldl (markS a) b = l.foldl (markS (a ++ r)) b
  | [], _, _ => rfl
  | x :: l, b, h => by
    rw [List.foldl_cons] at h
    rw [List.foldl_cons, List.foldl_cons, markS_cut (Nat.le_trans (markF_len _ l _) h)]
    exact markF_cut l _ h
theorem markAt_cut {a r : List UInt8} (h : mkLen (markAt ms (a ++ r)) ≤ a.length) : markAt ms a = markAt ms (a ++ r) := markF_cut ms none h
theorem markS_pre {t : List UInt8} {m : Mk} : ∀ (l : List Mk) (b : Option Mk), l.foldl (markS t) b = some m → b = some m ∨ (m ∈ l ∧ bs m.text <+: t)
  | [], _, h => .inl h
  | y :: l, b, h => by
    rcases markS_pre l (markS t b y) h with h1 | ⟨h1, h2⟩
    · unfold markS at h1
      split at h1
      · rename_i hc
        injection h1 with h1
        subst h1
        simp only [Bool.and_eq_true, List.isPrefixOf_iff_prefix] at hc
        exact .inr ⟨List.mem_cons_self, hc.1⟩
      · exact .inl h1
    · exact .inr ⟨List.mem_cons_of_mem _ h1, h2⟩
theorem markAt_pre {t : List UInt8} {m : Mk} (h : markAt ms t = some m) : m ∈ ms ∧ bs m.text <+: t := by
  rcases markS_pre ms none h with h1 | h1
  · cases h1
  · exact h1
theorem marksR_le : ∀ (k : Nat) (t : List UInt8) (x : Snd) (n : Nat), n ≤ (marksR ms k t x n).2
  | 0, _, _, _ => Nat.le_refl _
  | k + 1, t, x, n => by
    unfold marksR
    split
    · exact Nat.le_refl _
    · exact Nat.le_trans (Nat.le_add_right _ _) (marksR_le k _ _ _)
theorem marksR_len : ∀ (k : Nat) (t : List UInt8) (x : Snd) (n : Nat), n ≤ t.length → (marksR ms k t x n).2 ≤ t.length
  | 0, _, _, _, h => h
  | k + 1, t, x, n, h => by
    unfold marksR
    split
    · exact h
    · rename_i m hm
      have := (markAt_pre hm).2.length_le
      rw [List.length_drop, size_bs'] at this
      exact marksR_len k _ _ _ (by omega)
theorem marksR_stop (h : NoDot L ms) {a r : List UInt8} (hs : stopR r) : ∀ (k : Nat) (x : Snd) (n : Nat), n ≤ a.length → marksR ms k (a ++ r) x n = marksR ms k a x n
  | 0, _, _, _ => rfl
  | k + 1, x, n, hn => by
    unfold marksR
    rw [List.drop_append_of_le_length hn, markAt_stop h hs]
    cases hm : markAt ms (a.drop n) with
    | none => rfl
    | some m =>
      have := (markAt_pre hm).2.length_le
      rw [List.length_drop, size_bs'] at this
      exact marksR_stop h hs k _ _ (by omega)
theorem marksR_cut {a r : List UInt8} : ∀ (k : Nat) (x : Snd) (n : Nat), (marksR ms k (a ++ r) x n).2 ≤ a.length → marksR ms k a x n = marksR ms k (a ++ r) x n
  | 0, _, _, _ => rfl
  | k + 1, x, n, h => by
    have hn : n ≤ a.length := Nat.le_trans (marksR_le (k + 1) _ _ _) h
    unfold marksR at h ⊢
    rw [List.drop_append_of_le_length hn] at h ⊢
    have hcut : mkLen (markAt ms (a.drop n ++ r)) ≤ (a.drop n).length := by
      cases hm : markAt ms (a.drop n ++ r) with
      | none => exact Nat.zero_le _
      | some m =>
        rw [hm] at h
        have := Nat.le_trans (marksR_le k (a ++ r) _ _) h
        rw [List.length_drop]
        show m.text.size ≤ _
        omega
    rw [markAt_cut hcut]
    cases hm : markAt ms (a.drop n ++ r) with
    | none => rfl
    | some m =>
      rw [hm] at h
      exact marksR_cut k _ _ h
theorem marksR_dot (h : NoDot L ms) {t : List UInt8} : ∀ (k : Nat) (x : Snd) (n : Nat), (46 : UInt8) ∉ t.take n → (46 : UInt8) ∉ t.take (marksR ms k t x n).2
  | 0, _, _, hn => hn
  | k + 1, x, n, hn => by
    unfold marksR
    cases hm : markAt ms (t.drop n) with
    | none => exact hn
    | some m =>
      obtain ⟨h1, h2⟩ := markAt_pre hm
      refine marksR_dot h k _ _ ?_
      rw [List.take_add, List.mem_append]
      rintro (h3 | h3)
      · exact hn h3
      · rw [List.prefix_iff_eq_take, size_bs'] at h2
        rw [← h2] at h3
        exact h.mark m h1 h3
theorem longN_le' (L : List Nam) (t : List UInt8) : longN L t ≤ t.length := by
  unfold longN
  have h : ∀ n, symAt L t n = true → n ≤ t.length := fun n hn => by unfold symAt at hn; simp only [Bool.and_eq_true, decide_eq_true_eq] at hn; exact hn.1
  split
  · exact h 4 (by assumption)
  split
  · exact h 3 (by assumption)
  split
  · exact h 2 (by assumption)
  split
  · exact h 1 (by assumption)
  · exact Nat.zero_le _
theorem longN_has {L : List Nam} {t : List UInt8} (h0 : longN L t ≠ 0) : hasSym L (t.take (longN L t)) = true := by
  have h : ∀ n, symAt L t n = true → hasSym L (t.take n) = true := fun n hn => by unfold symAt at hn; simp only [Bool.and_eq_true] at hn; exact hn.2
  unfold longN at *
  split
  · exact h 4 (by assumption)
  split
  · exact h 3 (by assumption)
  split
  · exact h 2 (by assumption)
  split
  · exact h 1 (by assumption)
  · rename_i h4 h3 h2 h1
    rw [if_neg h4, if_neg h3, if_neg h2, if_neg h1] at h0
    exact absurd rfl h0
theorem unitR_some {t : List UInt8} {x : Snd} {n : Nat} (h : unitR L ms t = some (x, n)) : longN L t ≠ 0 ∧ marksR ms 4 t (soundOf L (t.take (longN L t))) (longN L t) = (x, n) ∧ 0 < n ∧ n ≤ t.length := by
  unfold unitR at h
  split at h
  · cases h
  · rename_i h0
    injection h with h
    have h1 := marksR_le (ms := ms) 4 t (soundOf L (t.take (longN L t))) (longN L t)
    have h2 := marksR_len (ms := ms) 4 t (soundOf L (t.take (longN L t))) (longN L t) (longN_le' L t)
    rw [h] at h1 h2
    exact ⟨h0, h, by simp only [] at h1; omega, h2⟩
theorem unitR_dot (hd : NoDot L ms) {t : List UInt8} {x : Snd} {n : Nat} (h : unitR L ms t = some (x, n)) : (46 : UInt8) ∉ t.take n := by
  obtain ⟨h0, h1, _⟩ := unitR_some h
  have := marksR_dot (t := t) hd 4 (soundOf L (t.take (longN L t))) (longN L t) (fun hm => by
    have h2 := longN_has h0
    rw [hasSym_dot hd hm] at h2
    cases h2)
  rw [h1] at this
  exact this
theorem unitR_cut {a r : List UInt8} {x : Snd} {n : Nat} (h : unitR L ms (a ++ r) = some (x, n)) (hn : n ≤ a.length) : unitR L ms a = some (x, n) := by
  obtain ⟨h0, h1, _⟩ := unitR_some h
  have hl := marksR_le (ms := ms) 4 (a ++ r) (soundOf L ((a ++ r).take (longN L (a ++ r)))) (longN L (a ++ r))
  rw [h1] at hl
  simp only [] at hl
  have e := longN_cut (L := L) (a := a) (r := r) rfl (by omega)
  unfold unitR
  rw [e, if_neg h0]
  rw [List.take_append_of_le_length (by omega)] at h1
  rw [marksR_cut 4 _ _ (by rw [h1]; exact hn), h1]
theorem unitR_stop (hd : NoDot L ms) {a r : List UInt8} (hs : stopR r) : unitR L ms (a ++ r) = unitR L ms a := by
  unfold unitR
  rw [longN_stop hd hs, marksR_stop hd hs 4 _ _ (longN_le' L a), List.take_append_of_le_length (longN_le' L a)]
theorem skipD_le (k : Nat) (t : List UInt8) : skipD k t ≤ t.length := by
  unfold skipD
  split
  · rename_i h
    cases t with
    | nil => cases h.2
    | cons c t => simp
  · exact Nat.zero_le _
theorem skipD_pos {k k' : Nat} (h : 0 < k) (h' : 0 < k') (t : List UInt8) : skipD k t = skipD k' t := by
  unfold skipD
  simp only [h, h', true_and]
theorem skipD_app {k : Nat} {t : List UInt8} (r : List UInt8) (ht : t ≠ []) : skipD k (t ++ r) = skipD k t := by
  cases t with
  | nil => exact absurd rfl ht
  | cons c t => rfl
theorem skipD_take {k : Nat} {t : List UInt8} {c : Nat} (hc : 0 < c) : skipD k (t.take c) = skipD k t := by
  obtain ⟨c, rfl⟩ : ∃ d, c = d + 1 := ⟨c - 1, by omega⟩
  cases t with
  | nil => rfl
  | cons x t => rfl
theorem unitsK_cons {f k : Nat} {t : List UInt8} {x : Snd} {n : Nat} (ht : t ≠ []) (h : unitR L ms (t.drop (skipD k t)) = some (x, n)) :
    unitsK L ms (f + 1) k t = ⟨x, (t.drop (skipD k t)).take n, k + skipD k t⟩ :: unitsK L ms f (k + skipD k t + n) (t.drop (skipD k t + n)) := by
  rw [unitsK, if_neg ht, h]
theorem unitsK_bad {f k : Nat} {t : List UInt8} (ht : t ≠ []) (h : unitR L ms (t.drop (skipD k t)) = none) : unitsK L ms (f + 1) k t = [⟨(0, 0), [], k + skipD k t⟩] := by
  rw [unitsK, if_neg ht, h]
/-- More rounds than bytes make no difference. -/
theorem unitsK_fuel : ∀ (f f' k : Nat) (t : List UInt8), t.length < f → t.length < f' → unitsK L ms f k t = unitsK L ms f' k t
  | 0, _, _, _, h, _ => absurd h (Nat.not_lt_zero _)
  | _ + 1, 0, _, _, _, h => absurd h (Nat.not_lt_zero _)
  | f + 1, f' + 1, k, t, h, h' => by
    by_cases ht : t = []
    · subst ht; rfl
    · cases hu : unitR L ms (t.drop (skipD k t)) with
      | none => rw [unitsK_bad ht hu, unitsK_bad ht hu]
      | some p =>
        obtain ⟨x, n⟩ := p
        have h0 := (unitR_some hu).2.2
        rw [List.length_drop] at h0
        rw [unitsK_cons ht hu, unitsK_cons ht hu, unitsK_fuel f f' _ _ (by rw [List.length_drop]; omega) (by rw [List.length_drop]; omega)]
/-- What counts of a unit but its place. -/
def uv (u : Un) : Snd × List UInt8 := (u.x, u.text)
theorem unitsK_shift : ∀ (f k k' : Nat) (t : List UInt8), 0 < k → 0 < k' → (unitsK L ms f k t).map uv = (unitsK L ms f k' t).map uv
  | 0, _, _, _, _, _ => rfl
  | f + 1, k, k', t, hk, hk' => by
    by_cases ht : t = []
    · subst ht; rfl
    · have es := skipD_pos hk hk' t
      cases hu : unitR L ms (t.drop (skipD k t)) with
      | none =>
        rw [unitsK_bad ht hu, unitsK_bad ht (es ▸ hu)]; rfl
      | some p =>
        obtain ⟨x, n⟩ := p
        rw [unitsK_cons ht hu, unitsK_cons ht (es ▸ hu), List.map_cons, List.map_cons, ← es, unitsK_shift f _ (k' + skipD k t + n) _ (by omega) (by omega)]
        rfl
theorem drop_ne {t : List UInt8} {n : Nat} (h : n < t.length) : t.drop n ≠ [] := fun e => by
  have := congrArg List.length e
  rw [List.length_drop] at this
  simp at this; omega
/-- A text of units, behind which others stop. -/
theorem unitsK_app (hd : NoDot L ms) {r : List UInt8} (hs : stopR r) : ∀ (f k : Nat) (t : List UInt8), t.length < f → (∀ u ∈ unitsK L ms f k t, u.text ≠ []) →
    unitsK L ms (f + r.length) k (t ++ r) = unitsK L ms f k t ++ unitsK L ms (f + r.length) (k + t.length) r
  | 0, _, _, h, _ => absurd h (Nat.not_lt_zero _)
  | f + 1, k, t, h, hg => by
    by_cases ht : t = []
    · subst ht; rfl
    · have htr : t ++ r ≠ [] := fun e => ht (List.append_eq_nil_iff.1 e).1
      have hsl := skipD_le k t
      cases hu : unitR L ms (t.drop (skipD k t)) with
      | none =>
        rw [unitsK_bad ht hu] at hg
        exact absurd rfl (hg _ List.mem_cons_self)
      | some p =>
        obtain ⟨x, n⟩ := p
        have h0 := (unitR_some hu).2.2
        rw [List.length_drop] at h0
        have hu' : unitR L ms ((t ++ r).drop (skipD k (t ++ r))) = some (x, n) := by
          rw [skipD_app r ht, List.drop_append_of_le_length hsl, unitR_stop hd hs, hu]
        rw [unitsK_cons ht hu] at hg
        rw [show f + 1 + r.length = (f + r.length) + 1 by omega, unitsK_cons ht hu, unitsK_cons htr hu', skipD_app r ht, List.drop_append_of_le_length hsl, List.take_append_of_le_length (by rw [List.length_drop]; omega),
          List.drop_append_of_le_length (by omega), unitsK_app hd hs f _ _ (by rw [List.length_drop]; omega) (fun u hu => hg u (List.mem_cons_of_mem _ hu)), List.cons_append, List.length_drop,
          unitsK_fuel (f + r.length) (f + r.length + 1) _ r (by omega) (by omega)]
        congr 3
        omega
/-- A text cut behind some of its units. -/
theorem unitsK_pre (hd : NoDot L ms) : ∀ (pre rest : List Un) (f k : Nat) (t : List UInt8), t.length < f → unitsK L ms f k t = pre ++ rest → (∀ u ∈ pre, u.text ≠ []) →
    ∃ c, c ≤ t.length ∧ unitsK L ms f k (t.take c) = pre ∧ (∀ u r, rest = u :: r → c < t.length ∧ u.at_ = k + c + skipD (k + c) (t.drop c)) ∧ (rest = [] → c = t.length) ∧ (0 < c → t[c - 1]? ≠ some 46)
  | [], rest, f, k, t, hf, h, _ => by
    refine ⟨0, Nat.zero_le _, ?_, ?_, ?_, fun h => absurd h (Nat.lt_irrefl _)⟩
    · cases f with
      | zero => rfl
      | succ f => rfl
    · rintro u r rfl
      cases f with
      | zero => exact absurd hf (Nat.not_lt_zero _)
      | succ f =>
        by_cases ht : t = []
        · subst ht
          cases h
        · have hl : 0 < t.length := List.length_pos_iff.2 ht
          refine ⟨hl, ?_⟩
          cases hu : unitR L ms (t.drop (skipD k t)) with
          | none =>
            rw [unitsK_bad ht hu] at h
            injection h with h _
            rw [← h]; rfl
          | some p =>
            obtain ⟨x, n⟩ := p
            rw [unitsK_cons ht hu] at h
            injection h with h _
            rw [← h]; rfl
    · rintro rfl
      cases f with
      | zero => exact absurd hf (Nat.not_lt_zero _)
      | succ f =>
        by_cases ht : t = []
        · subst ht; rfl
        · cases hu : unitR L ms (t.drop (skipD k t)) with
          | none => rw [unitsK_bad ht hu] at h; cases h
          | some p =>
            obtain ⟨x, n⟩ := p
            rw [unitsK_cons ht hu] at h; cases h
  | u :: pre, rest, 0, k, t, hf, h, hg => absurd hf (Nat.not_lt_zero _)
  | u :: pre, rest, f + 1, k, t, hf, h, hg => by
    by_cases ht : t = []
    · subst ht; cases h
    · have hsl := skipD_le k t
      cases hu : unitR L ms (t.drop (skipD k t)) with
      | none =>
        rw [unitsK_bad ht hu, List.cons_append] at h
        injection h with h _
        exact absurd (by rw [← h]) (hg u List.mem_cons_self)
      | some p =>
        obtain ⟨x, n⟩ := p
        have h0 := (unitR_some hu).2.2
        have hdot := unitR_dot hd hu
        rw [List.length_drop] at h0
        rw [unitsK_cons ht hu, List.cons_append] at h
        injection h with h1 h2
        have hlt : (t.drop (skipD k t + n)).length < f := by rw [List.length_drop]; omega
        obtain ⟨c, hc, hK, hr, he, hn⟩ := unitsK_pre hd pre rest f _ _ hlt h2 (fun v hv => hg v (List.mem_cons_of_mem _ hv))
        rw [List.length_drop] at hc he
        have hcut : t.take (skipD k t + n + c) ≠ [] := fun e => by
          have := congrArg List.length e
          rw [List.length_take, List.length_nil] at this
          omega
        have hsk : skipD k (t.take (skipD k t + n + c)) = skipD k t := skipD_take (by omega)
        have hdt : (t.take (skipD k t + n + c)).drop (skipD k t) = (t.drop (skipD k t)).take (n + c) := by
          rw [List.drop_take, show skipD k t + n + c - skipD k t = n + c by omega]
        have hu' : unitR L ms ((t.take (skipD k t + n + c)).drop (skipD k (t.take (skipD k t + n + c)))) = some (x, n) := by
          rw [hsk, hdt]
          refine unitR_cut (r := (t.drop (skipD k t)).drop (n + c)) (by rw [List.take_append_drop]; exact hu) ?_
          rw [List.length_take, List.length_drop]; omega
        refine ⟨skipD k t + n + c, by omega, ?_, ?_, ?_, fun _ => ?_⟩
        · rw [unitsK_cons hcut hu', hsk, hdt, List.take_take, Nat.min_eq_left (by omega), h1, List.drop_take, show skipD k t + n + c - (skipD k t + n) = c by omega, hK]
        · intro v r hv
          obtain ⟨e1, e2⟩ := hr v r hv
          rw [List.length_drop] at e1
          refine ⟨by omega, ?_⟩
          rw [e2, List.drop_drop, show k + skipD k t + n + c = k + (skipD k t + n + c) by omega]
        · intro hv
          have := he hv
          omega
        · by_cases hc0 : 0 < c
          · have := hn hc0
            rw [List.getElem?_drop] at this
            rwa [show skipD k t + n + c - 1 = skipD k t + n + (c - 1) by omega]
          · obtain rfl : c = 0 := by omega
            intro e
            apply hdot
            rw [List.mem_iff_getElem?]
            refine ⟨n - 1, ?_⟩
            rw [List.getElem?_take_of_lt (by omega), List.getElem?_drop]
            rwa [show skipD k t + (n - 1) = skipD k t + n + 0 - 1 by omega]
end
end Go.Proofs.YtohggdfplmlinaaGreatDoor
