/-
  Layer 4, plainly: what a read gives of a text that is cut, or joined with another one by a dot. Conditions: symbols and marks hold no dot.
-/
import Derived.Test.YtohggdfplmlinaaGreatDoorZaNtG
import Derived.StillTailTactics
import Derived.Test.YtohggdfplmlinaaGreatDoorZaab
namespace Go.Proofs.YtohggdfplmlinaaGreatDoor

/-- What the first units give, while none is wrong and there are at most 32. -/
def okPre (pre : List Un) : Prop := pre.length ≤ 32 ∧ ∀ u ∈ pre, u.text ≠ []
theorem readL_pre : ∀ (pre rest : List Un) (w : List Snd) (ts : List (List UInt8)), (∀ u ∈ pre, u.text ≠ []) → w.length + pre.length ≤ 32 → readL (pre ++ rest) w ts = readL rest (w ++ pre.map (·.x)) (ts ++ pre.map (·.text))
  | [], rest, w, ts, _, _ => by simp
  | u :: pre, rest, w, ts, h, hl => by
    simp only [List.length_cons] at hl
    rw [List.cons_append, readL, if_neg (h u List.mem_cons_self), if_neg (by omega), readL_pre pre rest _ _ (fun v hv => h v (List.mem_cons_of_mem _ hv)) (by rw [List.length_append]; simp only [List.length_cons, List.length_nil]; omega)]
    simp [List.append_assoc]
theorem readL_all {pre : List Un} (h : okPre pre) : readL pre [] [] = ⟨pre.map (·.x), pre.map (·.text), 0, 0⟩ := by
  have := readL_pre pre [] [] [] h.2 (by simpa using h.1)
  simp only [List.append_nil, List.nil_append] at this
  rw [this]; rfl
theorem readL_bad {pre rest : List Un} {u : Un} (h : okPre pre) (hu : u.text = []) : readL (pre ++ u :: rest) [] [] = ⟨[], [], u.at_, 10⟩ := by
  rw [readL_pre pre _ [] [] h.2 (by simpa using h.1), readL, if_pos hu]
theorem readL_long {pre rest : List Un} {u : Un} (h : okPre pre) (hu : u.text ≠ []) (hl : pre.length = 32) : readL (pre ++ u :: rest) [] [] = ⟨[], [], u.at_, 11⟩ := by
  rw [readL_pre pre _ [] [] h.2 (by simpa using h.1), readL, if_neg hu, if_pos (by simpa using hl)]
theorem units_split : ∀ (us : List Un) (c : Nat), c ≤ 32 → (c + us.length ≤ 32 ∧ ∀ u ∈ us, u.text ≠ []) ∨ ∃ pre u rest, us = pre ++ u :: rest ∧ c + pre.length ≤ 32 ∧ (∀ v ∈ pre, v.text ≠ []) ∧ (u.text = [] ∨ (u.text ≠ [] ∧ c + pre.length = 32))
  | [], c, hc => .inl ⟨hc, fun _ h => by cases h⟩
  | u :: us, c, hc => by
    by_cases hu : u.text = []
    · exact .inr ⟨[], u, us, rfl, hc, (fun _ h => by cases h), .inl hu⟩
    · by_cases h32 : c = 32
      · exact .inr ⟨[], u, us, rfl, hc, (fun _ h => by cases h), .inr ⟨hu, h32⟩⟩
      · rcases units_split us (c + 1) (by omega) with ⟨h1, h2⟩ | ⟨pre, v, rest, rfl, h1, h2, h3⟩
        · refine .inl ⟨by simp only [List.length_cons]; omega, ?_⟩
          intro v hv
          rcases List.mem_cons.1 hv with rfl | hv
          · exact hu
          · exact h2 v hv
        · refine .inr ⟨u :: pre, v, rest, rfl, by simp only [List.length_cons]; omega, ?_, ?_⟩
          · intro v hv
            rcases List.mem_cons.1 hv with rfl | hv
            · exact hu
            · exact h2 v hv
          · rcases h3 with h3 | ⟨h3, h4⟩
            · exact .inl h3
            · exact .inr ⟨h3, by simp only [List.length_cons]; omega⟩
theorem units_two (us : List Un) : okPre us ∨ ∃ pre u rest, us = pre ++ u :: rest ∧ okPre pre ∧ (u.text = [] ∨ (u.text ≠ [] ∧ pre.length = 32)) := by
  rcases units_split us 0 (by omega) with ⟨h1, h2⟩ | ⟨pre, u, rest, e, h1, h2, h3⟩
  · exact .inl ⟨by omega, h2⟩
  · refine .inr ⟨pre, u, rest, e, ⟨by omega, h2⟩, ?_⟩
    rcases h3 with h3 | ⟨h3, h4⟩
    · exact .inl h3
    · exact .inr ⟨h3, by omega⟩
theorem readL_good {us : List Un} (h : ∀ u ∈ us, u.text ≠ []) : (us.length ≤ 32 ∧ readL us [] [] = ⟨us.map (·.x), us.map (·.text), 0, 0⟩) ∨ (32 < us.length ∧ (readL us [] []).e = 11) := by
  rcases units_two us with h1 | ⟨pre, u, rest, rfl, h1, h2 | ⟨h2, h3⟩⟩
  · exact .inl ⟨h1.1, readL_all h1⟩
  · exact absurd h2 (h u (List.mem_append.2 (.inr List.mem_cons_self)))
  · refine .inr ⟨by rw [List.length_append, List.length_cons]; omega, ?_⟩
    rw [readL_long h1 h2 h3]
section
variable {L : List Nam} {ms : List Mk}
abbrev unitsR (L : List Nam) (ms : List Mk) (t : List UInt8) : List Un := unitsK L ms (t.length + 1) 0 t
/-- The two ways of a read. -/
theorem readR_cases (t : List UInt8) : (okPre (unitsR L ms t) ∧ readR L ms t = ⟨(unitsR L ms t).map (·.x), (unitsR L ms t).map (·.text), 0, 0⟩) ∨
    ∃ pre u rest, unitsR L ms t = pre ++ u :: rest ∧ okPre pre ∧ (readR L ms t = ⟨[], [], u.at_, 10⟩ ∨ readR L ms t = ⟨[], [], u.at_, 11⟩) := by
  unfold readR
  rcases units_two (unitsR L ms t) with h | ⟨pre, u, rest, e, h1, h2⟩
  · exact .inl ⟨h, readL_all h⟩
  · refine .inr ⟨pre, u, rest, e, h1, ?_⟩
    rw [show unitsK L ms (t.length + 1) 0 t = pre ++ u :: rest from e]
    rcases h2 with h2 | ⟨h2, h3⟩
    · exact .inl (readL_bad h1 h2)
    · exact .inr (readL_long h1 h2 h3)
theorem readR_ok {t : List UInt8} (h : (readR L ms t).e = 0) : okPre (unitsR L ms t) ∧ readR L ms t = ⟨(unitsR L ms t).map (·.x), (unitsR L ms t).map (·.text), 0, 0⟩ := by
  rcases readR_cases (L := L) (ms := ms) t with h1 | ⟨pre, u, rest, e, h1, h2 | h2⟩
  · exact h1
  · rw [h2] at h; cases h
  · rw [h2] at h; cases h
/-- A text that is not read: what is before the place of the error is read. -/
theorem readR_err (hd : NoDot L ms) {t : List UInt8} (h : (readR L ms t).e ≠ 0) : (readR L ms t).w = [] ∧ (readR L ms t).texts = [] ∧ ∃ c, c < t.length ∧ (readR L ms t).at_ = c + skipD c (t.drop c) ∧ (readR L ms (t.take c)).e = 0 ∧ (0 < c → t[c - 1]? ≠ some 46) := by
  rcases readR_cases (L := L) (ms := ms) t with ⟨_, h1⟩ | ⟨pre, u, rest, e, h1, h2⟩
  · rw [h1] at h; exact absurd rfl h
  · have hw : (readR L ms t).w = [] ∧ (readR L ms t).texts = [] ∧ (readR L ms t).at_ = u.at_ := by
      rcases h2 with h2 | h2 <;> rw [h2] <;> exact ⟨rfl, rfl, rfl⟩
    obtain ⟨c, hc, hK, hr, _, hn⟩ := unitsK_pre hd pre (u :: rest) (t.length + 1) 0 t (Nat.lt_succ_self _) e h1.2
    obtain ⟨hlt, hat⟩ := hr u rest rfl
    refine ⟨hw.1, hw.2.1, c, hlt, ?_, ?_, hn⟩
    · rw [hw.2.2, hat, Nat.zero_add]
    · unfold readR
      rw [unitsK_fuel _ (t.length + 1) 0 _ (Nat.lt_succ_self _) (by rw [List.length_take]; omega), hK, readL_all h1]
theorem unitsK_nil (f k : Nat) : unitsK L ms f k [] = [] := by cases f <;> rfl
/-- Each unit, read alone. -/
theorem unitsK_each (hd : NoDot L ms) : ∀ (f k : Nat) (t : List UInt8), ∀ u ∈ unitsK L ms f k t, u.text ≠ [] → unitR L ms u.text = some (u.x, u.text.length) ∧ (46 : UInt8) ∉ u.text
  | 0, _, _, u, hu, _ => by cases hu
  | f + 1, k, t, u, hu, hn => by
    by_cases ht : t = []
    · subst ht; cases hu
    · cases hr : unitR L ms (t.drop (skipD k t)) with
      | none =>
        rw [unitsK_bad ht hr] at hu
        rcases List.mem_cons.1 hu with rfl | hu
        · exact absurd rfl hn
        · cases hu
      | some p =>
        obtain ⟨x, n⟩ := p
        rw [unitsK_cons ht hr] at hu
        rcases List.mem_cons.1 hu with rfl | hu
        · have h0 := (unitR_some hr).2.2
          have hl : ((t.drop (skipD k t)).take n).length = n := by rw [List.length_take]; omega
          refine ⟨?_, unitR_dot hd hr⟩
          show unitR L ms ((t.drop (skipD k t)).take n) = some (x, ((t.drop (skipD k t)).take n).length)
          rw [hl]
          exact unitR_cut (r := (t.drop (skipD k t)).drop n) (by rw [List.take_append_drop]; exact hr) (by rw [hl]; exact Nat.le_refl _)
        · exact unitsK_each hd f _ _ u hu hn
theorem readR_one {a : List UInt8} {x : Snd} (h : unitR L ms a = some (x, a.length)) : readR L ms a = ⟨[x], [a], 0, 0⟩ := by
  have h0 := (unitR_some h).2.2
  have ha : a ≠ [] := fun e => by rw [e] at h0; exact absurd h0.1 (Nat.lt_irrefl _)
  have hs : skipD 0 a = 0 := by unfold skipD; rw [if_neg (fun h => Nat.lt_irrefl _ h.1)]
  unfold readR
  rw [unitsK_cons ha (x := x) (n := a.length) (by rw [hs]; exact h), hs, List.drop_zero, List.take_length, Nat.zero_add, Nat.zero_add, List.drop_length, unitsK_nil, readL_all ⟨by simp, fun u hu => by
    rcases List.mem_cons.1 hu with rfl | hu
    · exact ha
    · cases hu⟩]
  rfl
theorem unitsK_flat (hd : NoDot L ms) : ∀ (f k : Nat) (t : List UInt8), t.length < f → (∀ u ∈ unitsK L ms f k t, u.text ≠ []) → ((unitsK L ms f k t).map (·.text)).flatten = t.filter (fun c => c != 46)
  | 0, _, _, h, _ => absurd h (Nat.not_lt_zero _)
  | f + 1, k, t, h, hg => by
    by_cases ht : t = []
    · subst ht; rfl
    · cases hr : unitR L ms (t.drop (skipD k t)) with
      | none =>
        rw [unitsK_bad ht hr] at hg
        exact absurd rfl (hg _ List.mem_cons_self)
      | some p =>
        obtain ⟨x, n⟩ := p
        have h0 := (unitR_some hr).2.2
        have hdot := unitR_dot hd hr
        rw [List.length_drop] at h0
        rw [unitsK_cons ht hr] at hg ⊢
        rw [List.map_cons, List.flatten_cons, unitsK_flat hd f _ _ (by rw [List.length_drop]; omega) (fun u hu => hg u (List.mem_cons_of_mem _ hu))]
        have e1 : t.filter (fun c => c != 46) = (t.drop (skipD k t)).filter (fun c => c != 46) := by
          unfold skipD
          split
          · rename_i hs
            cases t with
            | nil => exact absurd rfl ht
            | cons c t =>
              have hc := hs.2
              injection hc with hc
              subst hc
              rfl
          · rfl
        have e2 : (t.drop (skipD k t)).filter (fun c => c != 46) = ((t.drop (skipD k t)).take n).filter (fun c => c != 46) ++ ((t.drop (skipD k t)).drop n).filter (fun c => c != 46) := by
          rw [← List.filter_append, List.take_append_drop]
        have e3 : ((t.drop (skipD k t)).take n).filter (fun c => c != 46) = (t.drop (skipD k t)).take n := by
          rw [List.filter_eq_self]
          intro c hc
          rw [bne_iff_ne]
          rintro rfl
          exact hdot hc
        rw [e1, e2, e3, List.drop_drop]
/-- Two texts with a dot between. -/
theorem readR_join (hd : NoDot L ms) {t m : List UInt8} (h1 : (readR L ms t).e = 0) (h2 : (readR L ms m).e = 0) (ht : t ≠ []) (hm : m ≠ []) :
    (((readR L ms t).w.length + (readR L ms m).w.length ≤ 32 ∧ readR L ms (t ++ 46 :: m) = ⟨(readR L ms t).w ++ (readR L ms m).w, (readR L ms t).texts ++ (readR L ms m).texts, 0, 0⟩) ∨
      (32 < (readR L ms t).w.length + (readR L ms m).w.length ∧ (readR L ms (t ++ 46 :: m)).e = 11)) := by
  obtain ⟨o1, e1⟩ := readR_ok h1
  obtain ⟨o2, e2⟩ := readR_ok h2
  have hl : 0 < t.length := List.length_pos_iff.2 ht
  have A := unitsK_app hd (r := 46 :: m) (.inr rfl) (t.length + 1) 0 t (Nat.lt_succ_self _) o1.2
  have hs0 : skipD 0 m = 0 := by unfold skipD; rw [if_neg (fun h => Nat.lt_irrefl _ h.1)]
  have hs1 : skipD (0 + t.length) (46 :: m) = 1 := by unfold skipD; rw [if_pos ⟨by omega, rfl⟩]
  have B : ((unitsK L ms (t.length + 1 + (46 :: m).length) (0 + t.length) (46 :: m)).map uv) = (unitsR L ms m).map uv := by
    cases hu : unitR L ms m with
    | none =>
      exfalso
      have hb := unitsK_bad (L := L) (ms := ms) (f := m.length) (k := 0) hm (by rw [hs0]; exact hu)
      have := o2.2
      rw [show unitsR L ms m = _ from hb] at this
      exact this _ List.mem_cons_self rfl
    | some p =>
      obtain ⟨x, n⟩ := p
      have h0 := (unitR_some hu).2.2
      rw [show unitsR L ms m = _ from unitsK_cons (f := m.length) (k := 0) hm (by rw [hs0]; exact hu), List.length_cons, show t.length + 1 + (m.length + 1) = (t.length + 1 + m.length) + 1 by omega, unitsK_cons (f := t.length + 1 + m.length) (k := 0 + t.length) (by simp) (x := x) (n := n) (by rw [hs1]; exact hu), hs0, hs1, List.map_cons, List.map_cons,
        show 1 + n = n + 1 by omega, List.drop_succ_cons, List.drop_succ_cons, List.drop_zero, Nat.zero_add 0, Nat.zero_add n, unitsK_shift _ _ n _ (by omega) (by omega), unitsK_fuel (t.length + 1 + m.length) m.length n (m.drop n) (by rw [List.length_drop]; omega) (by rw [List.length_drop]; omega)]
      rfl
  have hmx : ∀ us : List Un, us.map (·.x) = (us.map uv).map (·.1) := fun us => by rw [List.map_map]; rfl
  have hmt : ∀ us : List Un, us.map (·.text) = (us.map uv).map (·.2) := fun us => by rw [List.map_map]; rfl
  have hg2 : ∀ u ∈ unitsK L ms (t.length + 1 + (46 :: m).length) (0 + t.length) (46 :: m), u.text ≠ [] := by
    intro u hu
    have : uv u ∈ (unitsR L ms m).map uv := by rw [← B]; exact List.mem_map_of_mem hu
    obtain ⟨v, hv, e⟩ := List.mem_map.1 this
    have := o2.2 v hv
    rw [show u.text = (uv u).2 from rfl, ← e]
    exact this
  have hlen : (unitsK L ms (t.length + 1 + (46 :: m).length) (0 + t.length) (46 :: m)).length = (unitsR L ms m).length := by
    have := congrArg List.length B
    rwa [List.length_map, List.length_map] at this
  have hR : readR L ms (t ++ 46 :: m) = readL (unitsR L ms t ++ unitsK L ms (t.length + 1 + (46 :: m).length) (0 + t.length) (46 :: m)) [] [] := by
    unfold readR
    rw [← A, List.length_append]
    congr 2
    omega
  rw [hR, e1, e2]
  simp only [List.length_map]
  have hgood : ∀ u ∈ unitsR L ms t ++ unitsK L ms (t.length + 1 + (46 :: m).length) (0 + t.length) (46 :: m), u.text ≠ [] := by
    intro u hu
    rcases List.mem_append.1 hu with hu | hu
    · exact o1.2 u hu
    · exact hg2 u hu
  rcases readL_good hgood with ⟨h3, h4⟩ | ⟨h3, h4⟩
  · rw [List.length_append, hlen] at h3
    refine .inl ⟨h3, ?_⟩
    rw [h4, List.map_append, List.map_append, hmx (unitsK _ _ _ _ (46 :: m)), hmt (unitsK _ _ _ _ (46 :: m)), B, ← hmx, ← hmt]
  · rw [List.length_append, hlen] at h3
    exact .inr ⟨h3, h4⟩
theorem readR_nil : readR L ms [] = ⟨[], [], 0, 0⟩ := rfl
theorem readR_w_ne {t : List UInt8} (h : (readR L ms t).e = 0) (ht : t ≠ []) : (readR L ms t).w ≠ [] := by
  obtain ⟨o, e⟩ := readR_ok h
  rw [e]
  cases hu : unitR L ms (t.drop (skipD 0 t)) with
  | none =>
    rw [show unitsR L ms t = _ from unitsK_bad ht hu]; simp
  | some p =>
    rw [show unitsR L ms t = _ from unitsK_cons ht hu]; simp
theorem readR_lens {t : List UInt8} (h : (readR L ms t).e = 0) : (readR L ms t).w.length = (readR L ms t).texts.length ∧ (readR L ms t).w.length ≤ 32 := by
  obtain ⟨o, e⟩ := readR_ok h
  rw [e]
  exact ⟨by rw [List.length_map, List.length_map], by rw [List.length_map]; exact o.1⟩
/-- Texts with dots between. -/
def dotsOf : List (List UInt8) → List UInt8
  | [] => []
  | a :: r => a ++ r.flatMap fun b => 46 :: b
theorem dotsOf_next (l : List (List UInt8)) (b : List UInt8) : dotsOf (l ++ [b]) = if l = [] then b else dotsOf l ++ 46 :: b := by
  cases l with
  | nil => simp [dotsOf]
  | cons a r => simp [dotsOf, List.append_assoc]
theorem dotsOf_ne {l : List (List UInt8)} (h : ∀ a ∈ l, a ≠ []) (hl : l ≠ []) : dotsOf l ≠ [] := by
  cases l with
  | nil => exact absurd rfl hl
  | cons a r =>
    intro e
    exact h a List.mem_cons_self (List.append_eq_nil_iff.1 e).1
/-- The units of a text, read alone and joined. -/
theorem readR_units (hd : NoDot L ms) {t : List UInt8} (h : (readR L ms t).e = 0) :
    (readR L ms t).texts.flatten = t.filter (fun c => c != 46) ∧
    (∀ (i : Nat) (x : Snd) (a : List UInt8), (readR L ms t).w[i]? = some x → (readR L ms t).texts[i]? = some a → readR L ms a = ⟨[x], [a], 0, 0⟩) ∧
    readR L ms (dotsOf (readR L ms t).texts) = ⟨(readR L ms t).w, (readR L ms t).texts, 0, 0⟩ := by
  obtain ⟨o, e⟩ := readR_ok h
  have hE := unitsK_each hd (t.length + 1) 0 t
  have hone : ∀ u ∈ unitsR L ms t, readR L ms u.text = ⟨[u.x], [u.text], 0, 0⟩ := fun u hu => readR_one (hE u hu (o.2 u hu)).1
  rw [e]
  refine ⟨unitsK_flat hd _ _ _ (Nat.lt_succ_self _) o.2, ?_, ?_⟩
  · intro i x a hx ha
    simp only [List.getElem?_map, Option.map_eq_some_iff] at hx ha
    obtain ⟨u, hu, rfl⟩ := hx
    obtain ⟨v, hv, rfl⟩ := ha
    rw [hu] at hv
    injection hv with hv
    subst hv
    exact hone u (List.mem_of_getElem? hu)
  · have step : ∀ (n : Nat) (us : List Un), us.length = n → us.length ≤ 32 → (∀ u ∈ us, u.text ≠ []) → (∀ u ∈ us, readR L ms u.text = ⟨[u.x], [u.text], 0, 0⟩) → readR L ms (dotsOf (us.map (·.text))) = ⟨us.map (·.x), us.map (·.text), 0, 0⟩ := by
      intro n
      induction n with
      | zero =>
        intro us h1 _ _ _
        rw [List.eq_nil_of_length_eq_zero h1]; rfl
      | succ n ih =>
        intro us h1 h2 h3 h4
        have hne : us ≠ [] := fun e => by rw [e] at h1; cases h1
        obtain ⟨us', u, rfl⟩ : ∃ us' u, us = us' ++ [u] := ⟨_, _, (List.dropLast_concat_getLast hne).symm⟩
        rw [List.length_append, List.length_singleton] at h1 h2
        have hu := h4 u (List.mem_append.2 (.inr List.mem_cons_self))
        have hun := h3 u (List.mem_append.2 (.inr List.mem_cons_self))
        have IH := ih us' (by omega) (by omega) (fun v hv => h3 v (List.mem_append.2 (.inl hv))) (fun v hv => h4 v (List.mem_append.2 (.inl hv)))
        rw [List.map_append, List.map_append, List.map_singleton, List.map_singleton, dotsOf_next]
        by_cases hus : us' = []
        · subst hus
          rw [List.map_nil, if_pos rfl, hu]; rfl
        · have hne2 : us'.map (·.text) ≠ [] := fun e => hus (List.map_eq_nil_iff.1 e)
          rw [if_neg hne2]
          have hdn := dotsOf_ne (l := us'.map (·.text)) (fun a ha => by
            obtain ⟨v, hv, rfl⟩ := List.mem_map.1 ha
            exact h3 v (List.mem_append.2 (.inl hv))) hne2
          rcases readR_join hd (t := dotsOf (us'.map (·.text))) (m := u.text) (by rw [IH]) (by rw [hu]) hdn hun with ⟨_, h6⟩ | ⟨h5, _⟩
          · rw [h6, IH, hu]
          · rw [IH, hu] at h5
            simp only [List.length_map, List.length_singleton] at h5
            omega
    exact step _ _ rfl o.1 o.2 hone
end
end Go.Proofs.YtohggdfplmlinaaGreatDoor
namespace Go.Proofs.YtohggdfplmlinaaGreatDoor
section
variable {L : List Nam} {ms : List Mk}
theorem isOne_iff {s : Snd} {t : List UInt8} : isOne L ms s t = true ↔ (readR L ms t).e = 0 ∧ (readR L ms t).w = [s] := by
  unfold isOne
  rw [Bool.and_eq_true, decide_eq_true_eq, decide_eq_true_eq]
theorem tryF_one (s : Snd) : ∀ (l : List (List UInt8)) (best : List UInt8), (best = [] ∨ isOne L ms s best = true) → (l.foldl (tryS L ms s) best = [] ∨ isOne L ms s (l.foldl (tryS L ms s) best) = true)
  | [], _, h => h
  | t :: l, best, h => by
    rw [List.foldl_cons]
    refine tryF_one s l _ ?_
    unfold tryS
    split
    · rename_i hc
      rw [Bool.and_eq_true] at hc
      exact .inr hc.2
    · exact h
theorem bestS_one {s : Snd} (h : bestS L ms s ≠ []) : (readR L ms (bestS L ms s)).e = 0 ∧ (readR L ms (bestS L ms s)).w = [s] :=
  isOne_iff.1 ((tryF_one s (cands L ms) [] (.inl rfl)).resolve_left h)
theorem printK_ok (hd : NoDot L ms) : ∀ (rest done : List Snd) (out o : List UInt8), (readR L ms out).e = 0 → (readR L ms out).w = done → (done ++ rest).length ≤ 32 → printK L ms done out rest = some o → (readR L ms o).e = 0 ∧ (readR L ms o).w = done ++ rest
  | [], done, out, o, h1, h2, _, h => by
    injection h with h
    subst h
    rw [List.append_nil]
    exact ⟨h1, h2⟩
  | s :: rest, done, out, o, h1, h2, hl, h => by
    unfold printK at h
    split at h
    · cases h
    · rename_i hb
      obtain ⟨b1, b2⟩ := bestS_one hb
      have hJ : (readR L ms (joinS L ms done out (bestS L ms s) s)).e = 0 ∧ (readR L ms (joinS L ms done out (bestS L ms s) s)).w = done ++ [s] := by
        unfold joinS
        split
        · assumption
        · rename_i hc
          by_cases ho : out = []
          · subst ho
            exfalso
            apply hc
            rw [List.nil_append]
            refine ⟨b1, ?_⟩
            rw [b2, ← h2]; rfl
          · rw [List.append_assoc, List.singleton_append]
            rw [List.length_append, List.length_cons] at hl
            rcases readR_join hd h1 b1 ho hb with ⟨_, h6⟩ | ⟨h5, _⟩
            · rw [h6, h2, b2]; exact ⟨rfl, rfl⟩
            · rw [h2, b2, List.length_singleton] at h5
              omega
      have := printK_ok hd rest (done ++ [s]) _ o hJ.1 hJ.2 (by simpa [List.append_assoc] using hl) h
      rwa [List.append_assoc, List.singleton_append] at this
theorem printR_ok (hd : NoDot L ms) {w : List Snd} {o : List UInt8} (h : printR L ms w = (o, 0)) : (readR L ms o).e = 0 ∧ (readR L ms o).w = w ∧ normalR L ms o = (o, 0) := by
  have hw : wordE w = 0 := by
    unfold printR at h
    split at h
    · assumption
    · injection h with _ h
  have hl : w.length ≤ 32 := by
    unfold wordE at hw
    split at hw
    · cases hw
    · omega
  have hK : printK L ms [] [] w = some o := by
    unfold printR at h
    rw [if_pos hw] at h
    cases hk : printK L ms [] [] w with
    | none => rw [hk] at h; injection h with _ h; cases h
    | some o' => rw [hk] at h; injection h with h _; rw [h]
  obtain ⟨h1, h2⟩ := printK_ok hd w [] [] o rfl rfl (by simpa using hl) hK
  rw [List.nil_append] at h2
  refine ⟨h1, h2, ?_⟩
  unfold normalR
  rw [if_pos h1, h2, h]
theorem printR_err {w : List Snd} {o : List UInt8} {e : Int} (h : printR L ms w = (o, e)) (he : e ≠ 0) : o = [] := by
  unfold printR at h
  split at h
  · split at h
    · injection h with h _; exact h.symm
    · injection h with _ h; exact absurd h.symm he
  · injection h with h _; exact h.symm
theorem consC_dot {p : UInt8 → Bool} {n : Nat} {s : ByteArray} (hp : p 46 = false) (h : consC p n s = true) : (46 : UInt8) ∉ bs s := fun hm => by
  unfold consC at h
  rw [Bool.and_eq_true] at h
  have := List.all_eq_true.1 h.2 _ hm
  rw [hp] at this
  cases this
theorem notE_ok {n : Nat} : ∀ (ms pre : List Mk), notE n pre ms = 0 → ∀ m ∈ ms, okMark m.text = true
  | [], _, _, _, h => by cases h
  | x :: ms, pre, h, m, hm => by
    unfold notE at h
    split at h
    · rename_i hx
      rcases List.mem_cons.1 hm with rfl | hm
      · cases hk : okMark m.text with
        | true => rfl
        | false =>
          unfold markE at hx
          rw [hk] at hx
          cases hx
      · exact notE_ok ms _ h m hm
    · rename_i hx
      exact absurd h hx
theorem noDot_of {n : Nat} (hL : ∀ x ∈ L, okSym x.1 = true) (h : notK n ms = 0) : NoDot L ms := by
  refine ⟨fun x hx => consC_dot (by decide) (hL x hx), fun m hm => consC_dot (p := signC) (n := 3) (by decide) ?_⟩
  unfold notK at h
  split at h
  · cases h
  · exact notE_ok ms [] h m hm
end
end Go.Proofs.YtohggdfplmlinaaGreatDoor
namespace Go.Proofs.YtohggdfplmlinaaGreatDoor
section
variable {P : Program} {ops : Array Oper} {md : Region.Mode} {n : Nat}
theorem Oper.wpIn_of_still {o : Oper} {a : Act} {w : World} {K : Act → Prop} {K' : Act → World → Prop} {Q' : Exit → Act → World → Prop} (h : ∀ a, K a → K' a w) (hh : o.still P a w K) : o.wpIn Fence.wide n P a w K' Q' := by
  refine ⟨fun _ _ => trivial, ?_⟩
  have e : (o.semAt Fence.wide.round a.eval) = execOp a.eval o := rfl
  rw [e]
  unfold Oper.still at hh
  generalize (execOp a.eval o).run P w = r at *
  cases r with
  | ok nx w' =>
    cases nx with
    | value v =>
      obtain ⟨rfl, hk⟩ := hh
      exact h _ hk
    | skip =>
      obtain ⟨rfl, hk⟩ := hh
      exact h _ hk
    | enter f args =>
      obtain ⟨rfl, v, hc, hk⟩ := hh
      rw [Oper.uponIn_enter]
      refine ⟨fun h => (by cases h), callsIn_wide.2 (hc.mono ?_)⟩
      rintro e w'' ⟨rfl, rfl⟩
      exact h _ hk
    | _ => cases hh
  | _ => cases hh
theorem wpOpIn_of_stOp {i : Nat} {a : Act} {w : World} {K : Act → Prop} {K' : Act → World → Prop} {Q' : Exit → Act → World → Prop} (h : ∀ a, K a → K' a w) (hh : stOp P ops w i K a) : wpOpIn Fence.wide n P ops Q' i K' a w := by
  unfold stOp at hh
  unfold wpOpIn
  split
  · rename_i ho; simp only [ho] at hh; exact h _ hh
  · rename_i o ho
    simp only [ho] at hh
    split
    · rename_i hw; simp only [hw, if_true] at hh; exact Oper.wpIn_of_still h hh
    · rename_i hw; simp only [hw] at hh; exact ⟨fun _ _ => trivial, h _ hh⟩
theorem wpAnyIn_of_head {k g : Nat} {w : World} {L : Array Bool → Act → Prop} {Q' : Exit → Act → World → Prop} (hL : ∀ listed a, L listed a → wpAnyIn Fence.wide n P md ops Q' g listed a w) :
    ∀ (f : Nat) (listed : Array Bool) (a : Act), wpAnyL P md ops w k L f listed a → wpAnyIn Fence.wide n P md ops Q' (f + g) listed a w
  | 0, listed, a, h => by rw [Nat.zero_add]; exact hL _ _ h
  | f + 1, listed, a, h => by
    rw [show f + 1 + g = (f + g) + 1 by omega]
    exact ⟨fun h0 => absurd h0 h.1, fun i hi => wpOpIn_of_stOp (fun a' h' => wpAnyIn_of_head hL f _ a' h') (h.2 i hi).2⟩
theorem wpAnyIn_of_seq {Q' : Exit → Act → World → Prop} : ∀ (l : List Oper) (k : Nat) (listed : Array Bool) (a : Act) (w : World), (∀ j, l[j]? = ops[k + j]?) →
    Region.seqB md ops l.length k listed = true → wpListIn Fence.wide n P ops Q' l a w → wpAnyIn Fence.wide n P md ops Q' l.length listed a w
  | [], _, _, _, _, _, hB, h => ⟨by simpa [Region.seqB] using hB, h⟩
  | o :: l, k, listed, a, w, hl, hB, h => by
    have h0 : ops[k]? = some o := by simpa using (hl 0).symm
    simp only [List.length_cons, Region.seqB, Bool.and_eq_true, decide_eq_true_eq] at hB
    refine ⟨fun h1 => (by rw [hB.1] at h1; cases h1), fun i hi => ?_⟩
    rw [hB.1] at hi
    have hik : i = k := by simpa using hi
    subst hik
    have hw : wpOpIn Fence.wide n P ops Q' i (wpListIn Fence.wide n P ops Q' l) a w := by unfold wpOpIn; simp only [h0]; exact h
    exact wpOpIn_mono (fun a' w' h' => wpAnyIn_of_seq l (i + 1) _ a' w' (fun j => by have := hl (j + 1); simpa [Nat.add_assoc, Nat.add_comm 1 j] using this) hB.2 h') hw
theorem wpIn_region_still_tail {id : Nat} {Q : Exit → Act → World → Prop} {a : Act} {w : World} {l : List Oper} (k : Nat) (hm : P.follows .mixedOrders = true) (hB : Region.lexTailB .any l.toArray k = true)
    (h : wpStill P l.toArray w.drew (fun a' => wpListIn Fence.wide n P l.toArray Q (l.drop k) a' w.drew) (l.take k) a) : (Code.region id l.toArray true).wpIn Fence.wide n P Q a w := by
  simp only [Region.lexTailB, Bool.and_eq_true, decide_eq_true_eq] at hB
  obtain ⟨⟨⟨⟨hsel, hn⟩, hs⟩, hc⟩, hlex⟩ := hB
  have hn' : k < l.length := by simpa using hn
  have htl : (l.take k).length = k := by simp; omega
  have hdl : (l.drop k).length = l.toArray.size - k := by simp
  have inv0 : HeadInv .any l.toArray k (Array.replicate l.toArray.size false) :=
    ⟨by simp, fun j oj _ hl => (by rw [getD_replicate_false] at hl; cases hl), fun t _ ht => getD_in (by simpa using ht) (getD_replicate_false _ _)⟩
  have H := wpAnyL_lex (md := .any) (g := l.toArray.size - k) hsel hs hc hn (l.take k) 0 _ a (fun j hj => by
    have hj' : j < k := by rw [htl] at hj; exact hj
    simp [hj']) (by simpa using htl) inv0 (by rw [htl]; exact hlex) h
  refine wpIn_region_any hm ?_
  have := wpAnyIn_of_head (n := n) (Q' := Q) (g := l.toArray.size - k) (fun listed a' hL => by
    have := wpAnyIn_of_seq (md := .any) (n := n) (Q' := Q) (l.drop k) k listed a' w.drew (fun j => by simp [List.getElem?_drop]) (by rw [hdl]; exact hL.1) hL.2
    rwa [hdl] at this) _ _ _ H
  rw [htl, show k + (l.toArray.size - k) = l.toArray.size by omega] at this
  exact this
end
end Go.Proofs.YtohggdfplmlinaaGreatDoor
