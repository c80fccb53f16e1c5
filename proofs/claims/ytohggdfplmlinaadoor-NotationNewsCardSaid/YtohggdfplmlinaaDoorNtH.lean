/-
  Layer 4, plainly: what a read gives of a text that is cut, or joined with another one by a dot. Conditions: symbols and marks hold no dot.
-/
import Derived.Test.YtohggdfplmlinaaDoorNtG
namespace Go.Proofs.YtohggdfplmlinaaDoor

/-- What the first units give, while none is wrong and there are at most 32. -/
def okPre (pre : List Un) : Prop := pre.length ≤ 32 ∧ ∀ u ∈ pre, u.text ≠ []
theorem readL_pre : ∀ (pre rest : List Un) (w : List Snd) (ts : List (List UInt8)), (∀ u ∈ pre, u.text ≠ []) → w.length + pre.length ≤ 32 → readL (pre ++ rest) w ts = readL rest (w ++ pre.map (·.x)) (ts ++ pre.map (·.text))
  | [], rest, w, ts, _, _ => by simp
  | u :: pre, rest, w, ts, h, hl => by
    simp only [List.length_cons] at hl
    rw [List.cons_append, readL, if_neg (h u List.mem_cons_self), if_neg (by omega), readL_pre pre rest _ _ (fun v hv => h v (List.mem_cons_of_mem _ hv)) (by rw [List.length_append]; simp only [List.length_cons, List.length_nil]; omega)]
    simp [List.append_assoc]
theorem readL_all {pre : List Un} (h : okPre pre) : readL pre [] [] = ⟨pre.map (·.x), pre.map (·.text), 0, 0⟩ := by
  have := readL_pre pre [] [] [] h.2 (by simpa using h.1)
  simp only [List.append_nil, List.nil_append] at this
  rw [this]; rfl
theorem readL_bad {pre rest : List Un} {u : Un} (h : okPre pre) (hu : u.text = []) : readL (pre ++ u :: rest) [] [] = ⟨[], [], u.at_, 10⟩ := by
  rw [readL_pre pre _ [] [] h.2 (by simpa using h.1), readL, if_pos hu]
theorem readL_long {pre rest : List Un} {u : Un} (h : okPre pre) (hu : u.text ≠ []) (hl : pre.length = 32) : readL (pre ++ u :: rest) [] [] = ⟨[], [], u.at_, 11⟩ := by
  rw [readL_pre pre _ [] [] h.2 (by simpa using h.1), readL, if_neg hu, if_pos (by simpa using hl)]
theorem units_split : ∀ (us : List Un) (c : Nat), c ≤ 32 → (c + us.length ≤ 32 ∧ ∀ u ∈ us, u.text ≠ []) ∨ ∃ pre u rest, us = pre ++ u :: rest ∧ c + pre.length ≤ 32 ∧ (∀ v ∈ pre, v.text ≠ []) ∧ (u.text = [] ∨ (u.text ≠ [] ∧ c + pre.length = 32))
  | [], c, hc => .inl ⟨hc, fun _ h => by cases h⟩
  | u :: us, c, hc => by
    by_cases hu : u.text = []
    · exact .inr ⟨[], u, us, rfl, hc, (fun _ h => by cases h), .inl hu⟩
    · by_cases h32 : c = 32
      · exact .inr ⟨[], u, us, rfl, hc, (fun _ h => by cases h), .inr ⟨hu, h32⟩⟩
      · rcases units_split us (c + 1) (by omega) with ⟨h1, h2⟩ | ⟨pre, v, rest, rfl, h1, h2, h3⟩
        · refine .inl ⟨by simp only [List.length_cons]; omega, ?_⟩
          intro v hv
          rcases List.mem_cons.1 hv with rfl | hv
          · exact hu
          · exact h2 v hv
        · refine .inr ⟨u :: pre, v, rest, rfl, by simp only [List.length_cons]; omega, ?_, ?_⟩
          · intro v hv
            rcases List.mem_cons.1 hv with rfl | hv
            · exact hu
            · exact h2 v hv
          · rcases h3 with h3 | ⟨h3, h4⟩
            · exact .inl h3
            · exact .inr ⟨h3, by simp only [List.length_cons]; omega⟩
theorem units_two (us : List Un) : okPre us ∨ ∃ pre u rest, us = pre ++ u :: rest ∧ okPre pre ∧ (u.text = [] ∨ (u.text ≠ [] ∧ pre.length = 32)) := by
  rcases units_split us 0 (by omega) with ⟨h1, h2⟩ | ⟨pre, u, rest, e, h1, h2, h3⟩
  · exact .inl ⟨by omega, h2⟩
  · refine .inr ⟨pre, u, rest, e, ⟨by omega, h2⟩, ?_⟩
    rcases h3 with h3 | ⟨h3, h4⟩
    · exact .inl h3
    · exact .inr ⟨h3, by omega⟩
theorem readL_good {us : List Un} (h : ∀ u ∈ us, u.text ≠ []) : (us.length ≤ 32 ∧ readL us [] [] = ⟨us.map (·.x), us.map (·.text), 0, 0⟩) ∨ (32 < us.length ∧ (readL us [] []).e = 11) := by
  rcases units_two us with h1 | ⟨pre, u, rest, rfl, h1, h2 | ⟨h2, h3⟩⟩
  · exact .inl ⟨h1.1, readL_all h1⟩
  · exact absurd h2 (h u (List.mem_append.2 (.inr List.mem_cons_self)))
  · refine .inr ⟨by rw [List.length_append, List.length_cons]; omega, ?_⟩
    rw [readL_long h1 h2 h3]
section
variable {L : List Nam} {ms : List Mk}
abbrev unitsR (L : List Nam) (ms : List Mk) (t : List UInt8) : List Un := unitsK L ms (t.length + 1) 0 t
/-- The two ways of a read. -/
theorem readR_cases (t : List UInt8) : (okPre (unitsR L ms t) ∧ readR L ms t = ⟨(unitsR L ms t).map (·.x), (unitsR L ms t).map (·.text), 0, 0⟩) ∨
    ∃ pre u rest, unitsR L ms t = pre ++ u :: rest ∧ okPre pre ∧ (readR L ms t = ⟨[], [], u.at_, 10⟩ ∨ readR L ms t = ⟨[], [], u.at_, 11⟩) := by
  unfold readR
  rcases units_two (unitsR L ms t) with h | ⟨pre, u, rest, e, h1, h2⟩
  · exact .inl ⟨h, readL_all h⟩
  · refine .inr ⟨pre, u, rest, e, h1, ?_⟩
    rw [show unitsK L ms (t.length + 1) 0 t = pre ++ u :: rest from e]
    rcases h2 with h2 | ⟨h2, h3⟩
    · exact .inl (readL_bad h1 h2)
    · exact .inr (readL_long h1 h2 h3)
theorem readR_ok {t : List UInt8} (h : (readR L ms t).e = 0) : okPre (unitsR L ms t) ∧ readR L ms t = ⟨(unitsR L ms t).map (·.x), (unitsR L ms t).map (·.text), 0, 0⟩ := by
  rcases readR_cases (L := L) (ms := ms) t with h1 | ⟨pre, u, rest, e, h1, h2 | h2⟩
  · exact h1
  · rw [h2] at h; cases h
  · rw [h2] at h; cases h
/-- A text that is not read: what is before the place of the error is read. -/
theorem readR_err (hd : NoDot L ms) {t : List UInt8} (h : (readR L ms t).e ≠ 0) : (readR L ms t).w = [] ∧ (readR L ms t).texts = [] ∧ ∃ c, c < t.length ∧ (readR L ms t).at_ = c + skipD c (t.drop c) ∧ (readR L ms (t.take c)).e = 0 ∧ (0 < c → t[c - 1]? ≠ some 46) := by
  rcases readR_cases (L := L) (ms := ms) t with ⟨_, h1⟩ | ⟨pre, u, rest, e, h1, h2⟩
  · rw [h1] at h; exact absurd rfl h
  · have hw : (readR L ms t).w = [] ∧ (readR L ms t).texts = [] ∧ (readR L ms t).at_ = u.at_ := by
      rcases h2 with h2 | h2 <;> rw [h2] <;> exact ⟨rfl, rfl, rfl⟩
    obtain ⟨c, hc, hK, hr, _, hn⟩ := unitsK_pre hd pre (u :: rest) (t.length + 1) 0 t (Nat.lt_succ_self _) e h1.2
    obtain ⟨hlt, hat⟩ := hr u rest rfl
    refine ⟨hw.1, hw.2.1, c, hlt, ?_, ?_, hn⟩
    · rw [hw.2.2, hat, Nat.zero_add]
    · unfold readR
      rw [unitsK_fuel _ (t.length + 1) 0 _ (Nat.lt_succ_self _) (by rw [List.length_take]; omega), hK, readL_all h1]
theorem unitsK_nil (f k : Nat) : unitsK L ms f k [] = [] := by cases f <;> rfl
/-- Each unit, read alone. -/
theorem unitsK_each (hd : NoDot L ms) : ∀ (f k : Nat) (t : List UInt8), ∀ u ∈ unitsK L ms f k t, u.text ≠ [] → unitR L ms u.text = some (u.x, u.text.length) ∧ (46 : UInt8) ∉ u.text
  | 0, _, _, u, hu, _ => by cases hu
  | f + 1, k, t, u, hu, hn => by
    by_cases ht : t = []
    · subst ht; cases hu
    · cases hr : unitR L ms (t.drop (skipD k t)) with
      | none =>
        rw [unitsK_bad ht hr] at hu
        rcases List.mem_cons.1 hu with rfl | hu
        · exact absurd rfl hn
        · cases hu
      | some p =>
        obtain ⟨x, n⟩ := p
        rw [unitsK_cons ht hr] at hu
        rcases List.mem_cons.1 hu with rfl | hu
        · have h0 := (unitR_some hr).2.2
          have hl : ((t.drop (skipD k t)).take n).length = n := by rw [List.length_take]; omega
          refine ⟨?_, unitR_dot hd hr⟩
          show unitR L ms ((t.drop (skipD k t)).take n) = some (x, ((t.drop (skipD k t)).take n).length)
          rw [hl]
          exact unitR_cut (r := (t.drop (skipD k t)).drop n) (by rw [List.take_append_drop]; exact hr) (by rw [hl]; exact Nat.le_refl _)
        · exact unitsK_each hd f _ _ u hu hn
theorem readR_one {a : List UInt8} {x : Snd} (h : unitR L ms a = some (x, a.length)) : readR L ms a = ⟨[x], [a], 0, 0⟩ := by
  have h0 := (unitR_some h).2.2
  have ha : a ≠ [] := fun e => by rw [e] at h0; exact absurd h0.1 (Nat.lt_irrefl _)
  have hs : skipD 0 a = 0 := by unfold skipD; rw [if_neg (fun h => Nat.lt_irrefl _ h.1)]
  unfold readR
  rw [unitsK_cons ha (x := x) (n := a.length) (by rw [hs]; exact h), hs, List.drop_zero, List.take_length, Nat.zero_add, Nat.zero_add, List.drop_length, unitsK_nil, readL_all ⟨by simp, fun u hu => by
    rcases List.mem_cons.1 hu with rfl | hu
    · exact ha
    · cases hu⟩]
  rfl
theorem unitsK_flat (hd : NoDot L ms) : ∀ (f k : Nat) (t : List UInt8), t.length < f → (∀ u ∈ unitsK L ms f k t, u.text ≠ []) → ((unitsK L ms f k t).map (·.text)).flatten = t.filter (fun c => c != 46)
  | 0, _, _, h, _ => absurd h (Nat.not_lt_zero _)
  | f + 1, k, t, h, hg => by
    by_cases ht : t = []
    · subst ht; rfl
    · cases hr : unitR L ms (t.drop (skipD k t)) with
      | none =>
        rw [unitsK_bad ht hr] at hg
        exact absurd rfl (hg _ List.mem_cons_self)
      | some p =>
        obtain ⟨x, n⟩ := p
        have h0 := (unitR_some hr).2.2
        have hdot := unitR_dot hd hr
        rw [List.length_drop] at h0
        rw [unitsK_cons ht hr] at hg ⊢
        rw [List.map_cons, List.flatten_cons, unitsK_flat hd f _ _ (by rw [List.length_drop]; omega) (fun u hu => hg u (List.mem_cons_of_mem _ hu))]
        have e1 : t.filter (fun c => c != 46) = (t.drop (skipD k t)).filter (fun c => c != 46) := by
          unfold skipD
          split
          · rename_i hs
            cases t with
            | nil => exact absurd rfl ht
            | cons c t =>
              have hc := hs.2
              injection hc with hc
              subst hc
              rfl
          · rfl
        have e2 : (t.drop (skipD k t)).filter (fun c => c != 46) = ((t.drop (skipD k t)).take n).filter (fun c => c != 46) ++ ((t.drop (skipD k t)).drop n).filter (fun c => c != 46) := by
          rw [← List.filter_append, List.take_append_drop]
        have e3 : ((t.drop (skipD k t)).take n).filter (fun c => c != 46) = (t.drop (skipD k t)).take n := by
          rw [List.filter_eq_self]
          intro c hc
          rw [bne_iff_ne]
          rintro rfl
          exact hdot hc
        rw [e1, e2, e3, List.drop_drop]
/-- Two texts with a dot between. -/
theorem readR_join (hd : NoDot L ms) {t m : List UInt8} (h1 : (readR L ms t).e = 0) (h2 : (readR L ms m).e = 0) (ht : t ≠ []) (hm : m ≠ []) :
    (((readR L ms t).w.length + (readR L ms m).w.length ≤ 32 ∧ readR L ms (t ++ 46 :: m) = ⟨(readR L ms t).w ++ (readR L ms m).w, (readR L ms t).texts ++ (readR L ms m).texts, 0, 0⟩) ∨
      (32 < (readR L ms t).w.length + (readR L ms m).w.length ∧ (readR L ms (t ++ 46 :: m)).e = 11)) := by
  obtain ⟨o1, e1⟩ := readR_ok h1
  obtain ⟨o2, e2⟩ := readR_ok h2
  have hl : 0 < t.length := List.length_pos_iff.2 ht
  have A := unitsK_app hd (r := 46 :: m) (.inr rfl) (t.length + 1) 0 t (Nat.lt_succ_self _) o1.2
  have hs0 : skipD 0 m = 0 := by unfold skipD; rw [if_neg (fun h => Nat.lt_irrefl _ h.1)]
  have hs1 : skipD (0 + t.length) (46 :: m) = 1 := by unfold skipD; rw [if_pos ⟨by omega, rfl⟩]
  have B : ((unitsK L ms (t.length + 1 + (46 :: m).length) (0 + t.length) (46 :: m)).map uv) = (unitsR L ms m).map uv := by
    cases hu : unitR L ms m with
    | none =>
      exfalso
      have hb := unitsK_bad (L := L) (ms := ms) (f := m.length) (k := 0) hm (by rw [hs0]; exact hu)
      have := o2.2
      rw [show unitsR L ms m = _ from hb] at this
      exact this _ List.mem_cons_self rfl
    | some p =>
      obtain ⟨x, n⟩ := p
      have h0 := (unitR_some hu).2.2
      rw [show unitsR L ms m = _ from unitsK_cons (f := m.length) (k := 0) hm (by rw [hs0]; exact hu), List.length_cons, show t.length + 1 + (m.length + 1) = (t.length + 1 + m.length) + 1 by omega, unitsK_cons (f := t.length + 1 + m.length) (k := 0 + t.length) (by simp) (x := x) (n := n) (by rw [hs1]; exact hu), hs0, hs1, List.map_cons, List.map_cons,
        show 1 + n = n + 1 by omega, List.drop_succ_cons, List.drop_succ_cons, List.drop_zero, Nat.zero_add 0, Nat.zero_add n, unitsK_shift _ _ n _ (by omega) (by omega), unitsK_fuel (t.length + 1 + m.length) m.length n (m.drop n) (by rw [List.length_drop]; omega) (by rw [List.length_drop]; omega)]
      rfl
  have hmx : ∀ us : List Un, us.map (·.x) = (us.map uv).map (·.1) := fun us => by rw [List.map_map]; rfl
  have hmt : ∀ us : List Un, us.map (·.text) = (us.map uv).map (·.2) := fun us => by rw [List.map_map]; rfl
  have hg2 : ∀ u ∈ unitsK L ms (t.length + 1 + (46 :: m).length) (0 + t.length) (46 :: m), u.text ≠ [] := by
    intro u hu
    have : uv u ∈ (unitsR L ms m).map uv := by rw [← B]; exact List.mem_map_of_mem hu
    obtain ⟨v, hv, e⟩ := List.mem_map.1 this
    have := o2.2 v hv
    rw [show u.text = (uv u).2 from rfl, ← e]
    exact this
  have hlen : (unitsK L ms (t.length + 1 + (46 :: m).length) (0 + t.length) (46 :: m)).length = (unitsR L ms m).length := by
    have := congrArg List.length B
    rwa [List.length_map, List.length_map] at this
  have hR : readR L ms (t ++ 46 :: m) = readL (unitsR L ms t ++ unitsK L ms (t.length + 1 + (46 :: m).length) (0 + t.length) (46 :: m)) [] [] := by
    unfold readR
    rw [← A, List.length_append]
    congr 2
    omega
  rw [hR, e1, e2]
  simp only [List.length_map]
  have hgood : ∀ u ∈ unitsR L ms t ++ unitsK L ms (t.length + 1 + (46 :: m).length) (0 + t.length) (46 :: m), u.text ≠ [] := by
    intro u hu
    rcases List.mem_append.1 hu with hu | hu
    · exact o1.2 u hu
    · exact hg2 u hu
  rcases readL_good hgood with ⟨h3, h4⟩ | ⟨h3, h4⟩
  · rw [List.length_append, hlen] at h3
    refine .inl ⟨h3, ?_⟩
    rw [h4, List.map_append, List.map_append, hmx (unitsK _ _ _ _ (46 :: m)), hmt (unitsK _ _ _ _ (46 :: m)), B, ← hmx, ← hmt]
  · rw [List.length_append, hlen] at h3
    exact .inr ⟨h3, h4⟩
theorem readR_nil : readR L ms [] = ⟨[], [], 0, 0⟩ := rfl
theorem readR_w_ne {t : List UInt8} (h : (readR L ms t).e = 0) (ht : t ≠ []) : (readR L ms t).w ≠ [] := by
  obtain ⟨o, e⟩ := readR_ok h
  rw [e]
  cases hu : unitR L ms (t.drop (skipD 0 t)) with
  | none =>
    rw [show unitsR L ms t = _ from unitsK_bad ht hu]; simp
  | some p =>
    rw [show unitsR L ms t = _ from unitsK_cons ht hu]; simp
theorem readR_lens {t : List UInt8} (h : (readR L ms t).e = 0) : (readR L ms t).w.length = (readR L ms t).texts.length ∧ (readR L ms t).w.length ≤ 32 := by
  obtain ⟨o, e⟩ := readR_ok h
  rw [e]
  exact ⟨by rw [List.length_map, List.length_map], by rw [List.length_map]; exact o.1⟩
/-- Texts with dots between. -/
def dotsOf : List (List UInt8) → List UInt8
  | [] => []
  | a :: r => a ++ r.flatMap fun b => 46 :: b
theorem dotsOf_next (l : List (List UInt8)) (b : List UInt8) : dotsOf (l ++ [b]) = if l = [] then b else dotsOf l ++ 46 :: b := by
  cases l with
  | nil => simp [dotsOf]
  | cons a r => simp [dotsOf, List.append_assoc]
theorem dotsOf_ne {l : List (List UInt8)} (h : ∀ a ∈ l, a ≠ []) (hl : l ≠ []) : dotsOf l ≠ [] := by
  cases l with
  | nil => exact absurd rfl hl
  | cons a r =>
    intro e
    exact h a List.mem_cons_self (List.append_eq_nil_iff.1 e).1
/-- The units of a text, read alone and joined. -/
theorem readR_units (hd : NoDot L ms) {t : List UInt8} (h : (readR L ms t).e = 0) :
    (readR L ms t).texts.flatten = t.filter (fun c => c != 46) ∧
    (∀ (i : Nat) (x : Snd) (a : List UInt8), (readR L ms t).w[i]? = some x → (readR L ms t).texts[i]? = some a → readR L ms a = ⟨[x], [a], 0, 0⟩) ∧
    readR L ms (dotsOf (readR L ms t).texts) = ⟨(readR L ms t).w, (readR L ms t).texts, 0, 0⟩ := by
  obtain ⟨o, e⟩ := readR_ok h
  have hE := unitsK_each hd (t.length + 1) 0 t
  have hone : ∀ u ∈ unitsR L ms t, readR L ms u.text = ⟨[u.x], [u.text], 0, 0⟩ := fun u hu => readR_one (hE u hu (o.2 u hu)).1
  rw [e]
  refine ⟨unitsK_flat hd _ _ _ (Nat.lt_succ_self _) o.2, ?_, ?_⟩
  · intro i x a hx ha
    simp only [List.getElem?_map, Option.map_eq_some_iff] at hx ha
    obtain ⟨u, hu, rfl⟩ := hx
    obtain ⟨v, hv, rfl⟩ := ha
    rw [hu] at hv
    injection hv with hv
    subst hv
    exact hone u (List.mem_of_getElem? hu)
  · have step : ∀ (n : Nat) (us : List Un), us.length = n → us.length ≤ 32 → (∀ u ∈ us, u.text ≠ []) → (∀ u ∈ us, readR L ms u.text = ⟨[u.x], [u.text], 0, 0⟩) → readR L ms (dotsOf (us.map (·.text))) = ⟨us.map (·.x), us.map (·.text), 0, 0⟩ := by
      intro n
      induction n with
      | zero =>
        intro us h1 _ _ _
        rw [List.eq_nil_of_length_eq_zero h1]; rfl
      | succ n ih =>
        intro us h1 h2 h3 h4
        have hne : us ≠ [] := fun e => by rw [e] at h1; cases h1
        obtain ⟨us', u, rfl⟩ : ∃ us' u, us = us' ++ [u] := ⟨_, _, (List.dropLast_concat_getLast hne).symm⟩
        rw [List.length_append, List.length_singleton] at h1 h2
        have hu := h4 u (List.mem_append.2 (.inr List.mem_cons_self))
        have hun := h3 u (List.mem_append.2 (.inr List.mem_cons_self))
        have IH := ih us' (by omega) (by omega) (fun v hv => h3 v (List.mem_append.2 (.inl hv))) (fun v hv => h4 v (List.mem_append.2 (.inl hv)))
        rw [List.map_append, List.map_append, List.map_singleton, List.map_singleton, dotsOf_next]
        by_cases hus : us' = []
        · subst hus
          rw [List.map_nil, if_pos rfl, hu]; rfl
        · have hne2 : us'.map (·.text) ≠ [] := fun e => hus (List.map_eq_nil_iff.1 e)
          rw [if_neg hne2]
          have hdn := dotsOf_ne (l := us'.map (·.text)) (fun a ha => by
            obtain ⟨v, hv, rfl⟩ := List.mem_map.1 ha
            exact h3 v (List.mem_append.2 (.inl hv))) hne2
          rcases readR_join hd (t := dotsOf (us'.map (·.text))) (m := u.text) (by rw [IH]) (by rw [hu]) hdn hun with ⟨_, h6⟩ | ⟨h5, _⟩
          · rw [h6, IH, hu]
          · rw [IH, hu] at h5
            simp only [List.length_map, List.length_singleton] at h5
            omega
    exact step _ _ rfl o.1 o.2 hone
end
end Go.Proofs.YtohggdfplmlinaaDoor
