/-
  Plain facts of layer 37, of no program: which points roads join, labels; how the program and the reference find them. Conditions: none.
-/
import Derived.Test.YtgimhjkijpcgjaaDoorPtP
import Derived.Test.YtgimhjkijpcgjaaDoorProg
import Derived.Test.YtgimhjkijpcgjaaDoorGaa
import Derived.Maps.Own
import Derived.Maps.OwnSet
import Derived.Maps.OwnOps
import Derived.StillTailTactics
namespace Go.Proofs.YtgimhjkijpcgjaaDoor

/-- Two points are connected: whatever is the same at both ends of each road is the same at them. -/
def Con (es : List (Nat × Nat)) (x y : Nat) : Prop := ∀ f : Nat → Nat, (∀ e ∈ es, f e.1 = f e.2) → f x = f y
theorem Con.refl (es : List (Nat × Nat)) (x : Nat) : Con es x x := fun _ _ => rfl
theorem Con.symm {es : List (Nat × Nat)} {x y : Nat} (h : Con es x y) : Con es y x := fun f hf => (h f hf).symm
theorem Con.trans {es : List (Nat × Nat)} {x y z : Nat} (h : Con es x y) (h' : Con es y z) : Con es x z := fun f hf => (h f hf).trans (h' f hf)
theorem Con.edge {es : List (Nat × Nat)} {x y : Nat} (h : (x, y) ∈ es) : Con es x y := fun _ hf => hf (x, y) h
theorem Con.mono {es es' : List (Nat × Nat)} {x y : Nat} (h : Con es x y) (hs : ∀ e ∈ es, e ∈ es') : Con es' x y := fun f hf => h f fun e he => hf e (hs e he)
def Ends (es : List (Nat × Nat)) (x y : Nat) : Prop := (x, y) ∈ es ∨ (y, x) ∈ es
theorem Ends.symm {es : List (Nat × Nat)} {x y : Nat} (h : Ends es x y) : Ends es y x := h.elim .inr .inl
theorem Ends.con {es : List (Nat × Nat)} {x y : Nat} (h : Ends es x y) : Con es x y := h.elim Con.edge fun h => (Con.edge h).symm
/-- What labels are. -/
structure Lab (es : List (Nat × Nat)) (n : Nat) (f : Nat → Nat) : Prop where
  le : ∀ x, x < n → f x ≤ x
  con : ∀ x, x < n → Con es x (f x)
  edge : ∀ e ∈ es, f e.1 = f e.2
theorem Lab.unique {es : List (Nat × Nat)} {n : Nat} {f g : Nat → Nat} (h : Lab es n f) (h' : Lab es n g) {x : Nat} (hx : x < n) : f x = g x := by
  have h1 := h.le x hx
  have h2 := h'.le x hx
  have a1 := h'.con x hx f h.edge
  have a2 := h.con x hx g h'.edge
  have b1 := h.le (g x) (by omega)
  have b2 := h'.le (f x) (by omega)
  omega
theorem Lab.same {es : List (Nat × Nat)} {n : Nat} {f : Nat → Nat} (h : Lab es n f) {x y : Nat} (hc : Con es x y) : f x = f y := hc f h.edge
theorem Lab.self {es : List (Nat × Nat)} {n : Nat} {f : Nat → Nat} (h : Lab es n f) {x : Nat} (hx : x < n) : f (f x) = f x := ((h.con x hx) f h.edge).symm
/-- Labels, reckoned. -/
def joinL (l : List Nat) (e : Nat × Nat) : List Nat := l.map fun v => if v = max (l.getD e.1 0) (l.getD e.2 0) then min (l.getD e.1 0) (l.getD e.2 0) else v
def lbL (es : List (Nat × Nat)) (n : Nat) : List Nat := es.foldl joinL (List.range n)
def lbF (es : List (Nat × Nat)) (n x : Nat) : Nat := (lbL es n).getD x x
theorem joinL_len (l : List Nat) (e : Nat × Nat) : (joinL l e).length = l.length := by unfold joinL; rw [List.length_map]
theorem foldl_len (es : List (Nat × Nat)) : ∀ l : List Nat, (es.foldl joinL l).length = l.length := by
  induction es with
  | nil => intro l; rfl
  | cons e es ih => intro l; rw [List.foldl_cons, ih, joinL_len]
theorem lbL_len (es : List (Nat × Nat)) (n : Nat) : (lbL es n).length = n := by unfold lbL; rw [foldl_len, List.length_range]
theorem lab_step {es : List (Nat × Nat)} {l : List Nat} {e : Nat × Nat} (h : Lab es l.length fun x => l.getD x x) (h1 : e.1 < l.length) (h2 : e.2 < l.length) (hin : ∀ e ∈ es, e.1 < l.length ∧ e.2 < l.length) : Lab (es ++ [e]) (joinL l e).length fun x => (joinL l e).getD x x := by
  have hg : ∀ x, x < l.length → (joinL l e).getD x x = if l.getD x x = max (l.getD e.1 e.1) (l.getD e.2 e.2) then min (l.getD e.1 e.1) (l.getD e.2 e.2) else l.getD x x := by
    intro x hx
    unfold joinL
    simp only [List.getD_eq_getElem?_getD, List.getElem?_map, List.getElem?_eq_getElem hx, List.getElem?_eq_getElem h1, List.getElem?_eq_getElem h2, Option.map_some, Option.getD_some]
  have hl := joinL_len l e
  have c1 : Con (es ++ [e]) e.1 e.2 := Con.edge (by simp)
  have m1 : ∀ e' ∈ es, e' ∈ es ++ [e] := fun e' he => by simp [he]
  have ca := (h.con e.1 h1).mono m1
  have cb := (h.con e.2 h2).mono m1
  have la := h.le e.1 h1
  have lb := h.le e.2 h2
  obtain ⟨A, hA⟩ : ∃ A, l.getD e.1 e.1 = A := ⟨_, rfl⟩
  obtain ⟨B, hB⟩ : ∃ B, l.getD e.2 e.2 = B := ⟨_, rfl⟩
  rw [hA] at ca la
  rw [hB] at cb lb
  rw [hA, hB] at hg
  have hAB : Con (es ++ [e]) A B := (ca.symm.trans c1).trans cb
  have hmm : Con (es ++ [e]) (max A B) (min A B) := by
    rcases Nat.le_total A B with hle | hle
    · rw [Nat.max_eq_right hle, Nat.min_eq_left hle]; exact hAB.symm
    · rw [Nat.max_eq_left hle, Nat.min_eq_right hle]; exact hAB
  refine ⟨fun x hx => ?_, fun x hx => ?_, fun e' he => ?_⟩
  · rw [hl] at hx
    rw [hg x hx]
    have := h.le x hx
    split <;> omega
  · rw [hl] at hx
    show Con _ x ((joinL l e).getD x x)
    rw [hg x hx]
    have hc := (h.con x hx).mono m1
    split
    · rename_i he; rw [he] at hc; exact hc.trans hmm
    · exact hc
  · rcases List.mem_append.1 he with he | he
    · obtain ⟨i1, i2⟩ := hin e' he
      have := h.edge e' he
      show (joinL l e).getD e'.1 e'.1 = (joinL l e).getD e'.2 e'.2
      rw [hg _ i1, hg _ i2, this]
    · obtain rfl : e' = e := by simpa using he
      show (joinL l e').getD e'.1 e'.1 = (joinL l e').getD e'.2 e'.2
      rw [hg _ h1, hg _ h2, hA, hB]
      split <;> split <;> omega
theorem foldl_lab (es : List (Nat × Nat)) : ∀ (es0 : List (Nat × Nat)) (l : List Nat), (∀ e ∈ es0 ++ es, e.1 < l.length ∧ e.2 < l.length) → (Lab es0 l.length fun x => l.getD x x) → Lab (es0 ++ es) (es.foldl joinL l).length fun x => (es.foldl joinL l).getD x x := by
  induction es with
  | nil => intro es0 l _ h; simpa using h
  | cons e es ih =>
    intro es0 l hin h
    have he := hin e (by simp)
    have h2 := lab_step h he.1 he.2 (fun e' he' => hin e' (by simp [he']))
    have := ih (es0 ++ [e]) (joinL l e) (fun e' he' => by rw [joinL_len]; exact hin e' (by simpa using he')) h2
    simpa using this
theorem lbF_lab {es : List (Nat × Nat)} {n : Nat} (hin : ∀ e ∈ es, e.1 < n ∧ e.2 < n) : Lab es n (lbF es n) := by
  have := foldl_lab es [] (List.range n) (by simpa using hin) ⟨fun x hx => by simp only [List.length_range] at hx; simp [List.getD_eq_getElem?_getD, hx], fun x hx => by simp only [List.length_range] at hx; simp [List.getD_eq_getElem?_getD, hx, Con.refl], fun _ h => by cases h⟩
  rw [List.nil_append, show (es.foldl joinL (List.range n)).length = n from lbL_len es n] at this
  exact this
theorem lbF_out {es : List (Nat × Nat)} {n x : Nat} (h : n ≤ x) : lbF es n x = x := by
  unfold lbF
  rw [List.getD_eq_getElem?_getD, List.getElem?_eq_none (by rw [lbL_len]; exact h)]; rfl

/-! The program: from each point that has no label, to all that it reaches. -/
structure Outl (es : List (Nat × Nat)) (a : Nat) (g : Nat → Int) : Prop where
  low : ∀ x, g x = -1 ∨ (0 ≤ g x ∧ g x ≤ x)
  done : ∀ x, x < a → 0 ≤ g x
  con : ∀ x, 0 ≤ g x → Con es x (g x).toNat
  shut : ∀ x y, 0 ≤ g x → Ends es x y → g y = g x
structure Bfs (es : List (Nat × Nat)) (n a : Nat) (g f : Nat → Int) (T : List Nat) : Prop where
  keep : ∀ x, 0 ≤ g x → f x = g x
  two : ∀ x, g x < 0 → f x = -1 ∨ f x = a
  todo : ∀ x ∈ T, x < n ∧ g x < 0 ∧ f x = a
  con : ∀ x, g x < 0 → f x = a → Con es x a
  shut : ∀ x y, g x < 0 → f x = a → x ∉ T → Ends es x y → 0 ≤ f y
  root : f a = a
  rn : g a < 0
theorem Outl.start (es : List (Nat × Nat)) : Outl es 0 fun _ => -1 := ⟨fun _ => .inl rfl, fun x h => absurd h (by omega), fun x h => absurd h (by decide), fun x y h => absurd h (by decide)⟩
theorem Outl.skip {es : List (Nat × Nat)} {a : Nat} {g : Nat → Int} (h : Outl es a g) (ha : 0 ≤ g a) : Outl es (a + 1) g :=
  ⟨h.low, fun x hx => by
    rcases Nat.lt_or_ge x a with hl | hl
    · exact h.done x hl
    · obtain rfl : x = a := (by omega)
      exact ha, h.con, h.shut⟩
theorem Outl.begin_ {es : List (Nat × Nat)} {n a : Nat} {g : Nat → Int} (h : Outl es a g) (ha : g a < 0) (hn : a < n) : Bfs es n a g (setF g a a) [a] := by
  refine ⟨fun x hx => setF_other (fun e => by subst e; omega), fun x hx => ?_, fun x hx => ?_, fun x hx he => ?_, fun x y hx he hT _ => ?_, setF_same _ _ _, ha⟩
  · by_cases e : x = a
    · subst e; exact .inr (setF_same _ _ _)
    · rw [setF_other e]; rcases h.low x with h | h
      · exact .inl h
      · omega
  · obtain rfl : x = a := by simpa using hx
    exact ⟨hn, ha, setF_same _ _ _⟩
  · by_cases e : x = a
    · subst e; exact Con.refl _ _
    · rw [setF_other e] at he; omega
  · have e : x ≠ a := by simpa using hT
    rw [setF_other e] at he; omega
theorem Outl.finish {es : List (Nat × Nat)} {n a : Nat} {g f : Nat → Int} (h : Outl es a g) (b : Bfs es n a g f []) : Outl es (a + 1) f := by
  refine ⟨fun x => ?_, fun x hx => ?_, fun x hx => ?_, fun x y hx he => ?_⟩
  · by_cases h0 : 0 ≤ g x
    · rw [b.keep x h0]; exact h.low x
    · rcases b.two x (by omega) with e | e
      · exact .inl e
      · refine .inr ?_
        rw [e]
        have : ¬ x < a := fun hl => h0 (h.done x hl)
        omega
  · rcases Nat.lt_or_ge x a with hl | hl
    · rw [b.keep x (h.done x hl)]; exact h.done x hl
    · obtain rfl : x = a := by omega
      rw [b.root]; omega
  · by_cases h0 : 0 ≤ g x
    · rw [b.keep x h0]; exact h.con x h0
    · rcases b.two x (by omega) with e | e
      · omega
      · rw [e, Int.toNat_natCast]; exact b.con x (by omega) e
  · by_cases h0 : 0 ≤ g x
    · have h1 := h.shut x y h0 he
      rw [b.keep x h0, b.keep y (by omega)]; exact h1
    · rcases b.two x (by omega) with e | e
      · omega
      · have h1 := b.shut x y (by omega) e (by simp) he
        have h2 : ¬ 0 ≤ g y := fun h2 => h0 (by rw [h.shut y x h2 he.symm]; exact h2)
        rcases b.two y (by omega) with e2 | e2
        · omega
        · rw [e, e2]
theorem Bfs.add {es : List (Nat × Nat)} {n a : Nat} {g f : Nat → Int} {T : List Nat} {x y : Nat} (b : Bfs es n a g f T) (hx : x ∈ T) (he : Ends es x y) (hy : y < n) (hf : f y < 0) : Bfs es n a g (setF f y a) (T ++ [y]) := by
  have hgy : g y < 0 := by
    by_cases h0 : 0 ≤ g y
    · have := b.keep y h0; omega
    · omega
  obtain ⟨x1, x2, x3⟩ := b.todo x hx
  refine ⟨fun z hz => ?_, fun z hz => ?_, fun z hz => ?_, fun z hz hza => ?_, fun z y' hz hza hT he' => ?_, ?_, b.rn⟩
  · rw [setF_other (fun e => by subst e; omega)]; exact b.keep z hz
  · by_cases e : z = y
    · subst e; exact .inr (setF_same _ _ _)
    · rw [setF_other e]; exact b.two z hz
  · rcases List.mem_append.1 hz with hz | hz
    · obtain ⟨z1, z2, z3⟩ := b.todo z hz
      refine ⟨z1, z2, ?_⟩
      rw [setF_other (fun e => by subst e; omega)]; exact z3
    · obtain rfl : z = y := by simpa using hz
      exact ⟨hy, hgy, setF_same _ _ _⟩
  · by_cases e : z = y
    · subst e; exact he.con.symm.trans (b.con x x2 x3)
    · rw [setF_other e] at hza; exact b.con z hz hza
  · have e : z ≠ y := fun e => hT (by simp [e])
    rw [setF_other e] at hza
    have := b.shut z y' hz hza (fun h => hT (by simp [h])) he'
    by_cases e2 : y' = y
    · subst e2; rw [setF_same]; omega
    · rw [setF_other e2]; exact this
  · rw [setF_other (fun e => by have := b.root; rw [e] at this; omega)]; exact b.root
theorem Bfs.pop {es : List (Nat × Nat)} {n a : Nat} {g f : Nat → Int} {T : List Nat} {x : Nat} (b : Bfs es n a g f (x :: T)) (hs : ∀ y, Ends es x y → 0 ≤ f y) : Bfs es n a g f T := by
  refine ⟨b.keep, b.two, fun z hz => b.todo z (by simp [hz]), b.con, fun z y hz hza hT he => ?_, b.root, b.rn⟩
  by_cases e : z = x
  · subst e; exact hs y he
  · exact b.shut z y hz hza (by simp [e, hT]) he
theorem Outl.lab {es : List (Nat × Nat)} {n : Nat} {g : Nat → Int} (h : Outl es n g) (hin : ∀ e ∈ es, e.1 < n ∧ e.2 < n) : Lab es n fun x => (g x).toNat := by
  refine ⟨fun x hx => ?_, fun x hx => h.con x (h.done x hx), fun e he => ?_⟩
  · have h1 := h.done x hx
    rcases h.low x with h2 | h2 <;> omega
  · have := h.shut e.1 e.2 (h.done _ (hin e he).1) (.inl he)
    show (g e.1).toNat = (g e.2).toNat
    rw [this]
theorem Outl.eq {es : List (Nat × Nat)} {n : Nat} {g : Nat → Int} (h : Outl es n g) (hin : ∀ e ∈ es, e.1 < n ∧ e.2 < n) {x : Nat} (hx : x < n) : g x = (lbF es n x : Nat) := by
  have h1 := (h.lab hin).unique (lbF_lab hin) hx
  have h2 := h.done x hx
  omega
/-- How many have no label. -/
def bare (f : Nat → Int) (n : Nat) : Nat := ((List.range n).filter fun x => decide (f x < 0)).length
theorem bare_le (f : Nat → Int) (n : Nat) : bare f n ≤ n := by
  unfold bare; refine Nat.le_trans (List.length_filter_le _ _) ?_; simp
theorem bare_set {f : Nat → Int} {y : Nat} {v : Int} (hf : f y < 0) (hv : 0 ≤ v) : ∀ n, y < n → bare (setF f y v) n + 1 = bare f n := by
  intro n
  induction n with
  | zero => intro h; omega
  | succ n ih =>
    intro h
    unfold bare at ih ⊢
    rw [List.range_succ, List.filter_append, List.length_append, List.filter_append, List.length_append]
    by_cases e : y = n
    · subst e
      have h1 : (List.range y).filter (fun x => decide (setF f y v x < 0)) = (List.range y).filter fun x => decide (f x < 0) :=
        List.filter_congr fun x hx => by rw [setF_other (by have := List.mem_range.1 hx; omega)]
      rw [h1]
      simp only [List.filter_cons, List.filter_nil]
      rw [if_neg (by rw [setF_same]; simp; omega), if_pos (by simpa using hf)]
      simp
    · have := ih (by omega)
      simp only [List.filter_cons, List.filter_nil]
      rw [setF_other (r := f) (d := v) (show n ≠ y from fun h => e h.symm)]
      omega
/-- The points at each end of roads, as they are appended. -/
def addE (f : Nat → List Nat) (e : Nat × Nat) : Nat → List Nat := fun x => if x = e.2 then (if x = e.1 then f x ++ [e.2] else f x) ++ [e.1] else if x = e.1 then f x ++ [e.2] else f x
def nearF (es : List (Nat × Nat)) : Nat → List Nat := es.foldl addE fun _ => []
theorem nearF_snoc (es : List (Nat × Nat)) (e : Nat × Nat) : nearF (es ++ [e]) = addE (nearF es) e := by unfold nearF; rw [List.foldl_append]; rfl
theorem mem_near (es : List (Nat × Nat)) : ∀ x y, y ∈ nearF es x ↔ Ends es x y := by
  have key : ∀ (l : List (Nat × Nat)) (es0 : List (Nat × Nat)), (∀ x y, y ∈ nearF es0 x ↔ Ends es0 x y) → ∀ x y, y ∈ nearF (es0 ++ l) x ↔ Ends (es0 ++ l) x y := by
    intro l
    induction l with
    | nil => intro es0 h; simpa using h
    | cons e l ih =>
      intro es0 h
      have := ih (es0 ++ [e]) (fun x y => by
        rw [nearF_snoc]
        have h1 := h x y
        unfold Ends at h1 ⊢
        obtain ⟨a, b⟩ := e
        unfold addE
        have e1 : ((x, y) ∈ es0 ++ [(a, b)]) ↔ ((x, y) ∈ es0 ∨ (x = a ∧ y = b)) := by simp
        have e2 : ((y, x) ∈ es0 ++ [(a, b)]) ↔ ((y, x) ∈ es0 ∨ (y = a ∧ x = b)) := by simp
        rw [e1, e2]
        have e3 : (y ∈ (if x = b then (if x = a then nearF es0 x ++ [b] else nearF es0 x) ++ [a] else if x = a then nearF es0 x ++ [b] else nearF es0 x)) ↔ (y ∈ nearF es0 x ∨ (x = a ∧ y = b) ∨ (x = b ∧ y = a)) := by
          by_cases c1 : x = b <;> by_cases c2 : x = a
          · rw [if_pos c1, if_pos c2]; simp [c1.symm, c2.symm]
          · rw [if_pos c1, if_neg c2]; simp [c1.symm, c2]
          · rw [if_neg c1, if_pos c2]; simp [c1, c2.symm]
          · rw [if_neg c1, if_neg c2]; simp [c1, c2]
        show y ∈ (if x = b then (if x = a then nearF es0 x ++ [b] else nearF es0 x) ++ [a] else if x = a then nearF es0 x ++ [b] else nearF es0 x) ↔ _
        rw [e3, h1]
        constructor
        · rintro ((h | h) | h | h)
          · exact .inl (.inl h)
          · exact .inr (.inl h)
          · exact .inl (.inr h)
          · exact .inr (.inr ⟨h.2, h.1⟩)
        · rintro ((h | h) | h | h)
          · exact .inl (.inl h)
          · exact .inr (.inl h)
          · exact .inl (.inr h)
          · exact .inr (.inr ⟨h.2, h.1⟩))
      simpa using this
  intro x y
  have := key es [] (fun x y => by unfold nearF Ends; simp) x y
  simpa using this
theorem near_len (es : List (Nat × Nat)) : ∀ x, (nearF es x).length ≤ 2 * es.length := by
  have key : ∀ (l es0 : List (Nat × Nat)), (∀ x, (nearF es0 x).length ≤ 2 * es0.length) → ∀ x, (nearF (es0 ++ l) x).length ≤ 2 * (es0 ++ l).length := by
    intro l
    induction l with
    | nil => intro es0 h; simpa using h
    | cons e l ih =>
      intro es0 h
      have := ih (es0 ++ [e]) (fun x => by
        rw [nearF_snoc]
        have h1 := h x
        unfold addE
        rw [List.length_append, List.length_singleton]
        by_cases c1 : x = e.2 <;> by_cases c2 : x = e.1
        · rw [if_pos c1, if_pos c2, List.length_append, List.length_append, List.length_singleton, List.length_singleton]; omega
        · rw [if_pos c1, if_neg c2, List.length_append, List.length_singleton]; omega
        · rw [if_neg c1, if_pos c2, List.length_append, List.length_singleton]; omega
        · rw [if_neg c1, if_neg c2]; omega)
      rw [List.append_assoc] at this
      exact this
  intro x
  have := key es [] (fun x => by unfold nearF; simp) x
  simpa using this

/-! The reference: both ends of a road get the smaller label, again and again. -/
structure Rlx (es : List (Nat × Nat)) (f : Nat → Nat) : Prop where
  le : ∀ x, f x ≤ x
  con : ∀ x, Con es x (f x)
def meet (f : Nat → Nat) (a b : Nat) : Nat → Nat := fun x => if x = a ∨ x = b then min (f a) (f b) else f x
theorem Rlx.start (es : List (Nat × Nat)) : Rlx es fun x => x := ⟨fun _ => Nat.le_refl _, fun _ => Con.refl _ _⟩
theorem Rlx.step {es : List (Nat × Nat)} {f : Nat → Nat} (h : Rlx es f) {a b : Nat} (he : (a, b) ∈ es) : Rlx es (meet f a b) := by
  have hm : Con es a (min (f a) (f b)) := by
    rcases Nat.le_total (f a) (f b) with hle | hle
    · rw [Nat.min_eq_left hle]; exact h.con a
    · rw [Nat.min_eq_right hle]; exact (Con.edge he).trans (h.con b)
  refine ⟨fun x => ?_, fun x => ?_⟩
  · unfold meet
    have h1 := h.le a
    have h2 := h.le b
    have h3 := h.le x
    split
    · rename_i e; rcases e with rfl | rfl <;> omega
    · exact h3
  · unfold meet
    split
    · rename_i e
      rcases e with rfl | rfl
      · exact hm
      · exact (Con.edge he).symm.trans hm
    · exact h.con x
theorem Rlx.lab {es : List (Nat × Nat)} {f : Nat → Nat} (h : Rlx es f) (n : Nat) (he : ∀ e ∈ es, f e.1 = f e.2) : Lab es n f := ⟨fun x _ => h.le x, fun x _ => h.con x, he⟩
def sumN (f : Nat → Nat) : Nat → Nat
  | 0 => 0
  | n + 1 => sumN f n + f n
theorem sumN_le {f g : Nat → Nat} (h : ∀ x, g x ≤ f x) : ∀ n, sumN g n ≤ sumN f n
  | 0 => Nat.le_refl _
  | n + 1 => by have := sumN_le h n; have := h n; show sumN g n + g n ≤ sumN f n + f n; omega
theorem sumN_lt {f g : Nat → Nat} (h : ∀ x, g x ≤ f x) {y : Nat} (hy : g y < f y) : ∀ n, y < n → sumN g n < sumN f n
  | 0 => fun h => by omega
  | n + 1 => fun hl => by
    show sumN g n + g n < sumN f n + f n
    have h1 := sumN_le h n
    have h2 := h n
    by_cases e : y = n
    · subst e; omega
    · have := sumN_lt h hy n (by omega); omega
theorem meet_le (f : Nat → Nat) (a b x : Nat) : meet f a b x ≤ f x := by
  unfold meet; split
  · rename_i e; rcases e with rfl | rfl <;> omega
  · exact Nat.le_refl _
theorem meet_lt {f : Nat → Nat} {a b n : Nat} (ha : a < n) (hb : b < n) (hne : f a ≠ f b) : sumN (meet f a b) n < sumN f n := by
  rcases Nat.lt_or_ge (f a) (f b) with hl | hl
  · exact sumN_lt (meet_le f a b) (y := b) (by unfold meet; rw [if_pos (.inr rfl)]; omega) n hb
  · exact sumN_lt (meet_le f a b) (y := a) (by unfold meet; rw [if_pos (.inl rfl)]; omega) n ha
end Go.Proofs.YtgimhjkijpcgjaaDoor
namespace Go.Proofs.YtgimhjkijpcgjaaDoor
open Go.RowKit Go.Maps Go.WideMaps

theorem keyS_ : Keyed Tryd.prog 9 := string_keyed Tryd.underlying9
def MapSI (w : World) (b n : Nat) (f : ByteArray → Option Int) : Prop :=
  ∃ D : DataW Unit, w.ownsMap Tryd.prog 9 (plainElem Tryd.prog 3) b n D ∧ IsMap D ∧
    ∀ s : ByteArray, has D (.string s.data.toList) = (f s).isSome ∧ ∀ v, f s = some v → D.atKey (.string s.data.toList) (.lit (.int .i64 0)) = .lit (.int .i64 v)
theorem MapSI.lt {w : World} {b n : Nat} {f : ByteArray → Option Int} (h : MapSI w b n f) : b < w.heap.size := by
  obtain ⟨D, h1, _⟩ := h; exact h1.lt
theorem MapSI.made (w : World) : MapSI (w.alloc (.map #[] 0)) w.heap.size 0 (fun _ => none) :=
  ⟨.map [], World.ownsMap_made w _ _ _, isMap_empty, fun s => ⟨rfl, fun v h => by cases h⟩⟩
theorem MapSI.kept {w w' : World} {b n : Nat} {f : ByteArray → Option Int} {row : Option Nat} (h : MapSI w b n f) (hg : w.grownBy w' row) (hne : some b ≠ row) : MapSI w' b n f := by
  obtain ⟨D, h1, h2⟩ := h; exact ⟨D, h1.kept hg hne, h2⟩
theorem MapSI.below {w w' : World} {b n : Nat} {f : ByteArray → Option Int} (h : MapSI w b n f) (hb : Below w.heap.size w w') : MapSI w' b n f :=
  h.kept (row := none) ⟨hb.os, hb.tape, hb.output, hb.size, fun i hi _ => hb.block i hi⟩ (by simp)
theorem MapSI.isMap {w : World} {b n : Nat} {f : ByteArray → Option Int} (h : MapSI w b n f) : ∃ es clock, w.heap[b]? = some (.map es clock) := by
  obtain ⟨D, ⟨es, clock, hb, _⟩, _⟩ := h; exact ⟨es, clock, hb⟩
theorem key_string {s : ByteArray} (hs : s.size ≤ maxLen) : keyOf Tryd.prog 9 (.string s) = some (.string s.data.toList) := keyOf_string_mk Tryd.underlying9 hs
theorem zero_int (w : World) : (zeroValue 3).run Tryd.prog w = .ok (.int .i64 0) w := by kernel_rfl
/-- 'v, ok := m[s]'. -/
theorem MapSI.look {w : World} {b n : Nat} {f : ByteArray → Option Int} (h : MapSI w b n f) (s : ByteArray) (hs : s.size ≤ maxLen) :
    (Instr.lookup 58 (.map (some b)) (.string s) true).run Tryd.prog w = .ok (.tuple #[.int .i64 ((f s).getD 0), .bool (f s).isSome]) w := by
  obtain ⟨D, h1, h2, h3⟩ := h
  obtain ⟨v, ps, hrun, hv⟩ := h1.look_ok keyS_ Tryd.underlying58 (zero_int w) (plainElem_int (H := Unit) (a := 0) Tryd.underlying3 (by decide)) (key_string hs)
  obtain ⟨c, rfl, hc, _⟩ := plainElem_int_inv Tryd.underlying3 hv
  simp only [Prod.mk.injEq] at hc
  rw [hrun, (h3 s).1]
  cases hf : f s with
  | none =>
    have hh : has D (.string s.data.toList) = false := by rw [(h3 s).1, hf]; rfl
    rw [atKey_of_not_has hh] at hc
    have : c = 0 := (Lit.int.inj (DataW.lit.inj hc.1)).2.symm
    subst this; simp only [Option.isSome_none, Option.getD_none]
  | some x =>
    rw [(h3 s).2 x hf] at hc
    have : c = x := (Lit.int.inj (DataW.lit.inj hc.1)).2.symm
    subst this; simp only [Option.isSome_some, Option.getD_some]
/-- 'm[s] = v'. -/
theorem wpList_putSI {w : World} {ops : Array Oper} {rest : List Oper} {o : Oper} {a : Act} {Q : Exit → Act → World → Prop}
    (hg : o.guard = none) (m x v : Operand) (hop : o.op = Op.mapUpdate 58 m x v) (b n : Nat) (f : ByteArray → Option Int) (hm : a.eval m = .map (some b)) (h : MapSI w b n f) (hn : n < maxLen)
    (s : ByteArray) (hs : s.size ≤ maxLen) (i : Int) (hi : (Lit.int .i64 i).wf = true) (hx : a.eval x = .string s) (hv : a.eval v = .int .i64 i)
    (hK : ∀ w', MapSI w' b (n + 1) (fun t => if t = s then some i else f t) → w.grownBy w' (some b) → wpList Tryd.prog ops Q rest (a.put o.dst undef) w') :
    wpList Tryd.prog ops Q (o :: rest) a w := by
  obtain ⟨D, h1, h2, h3⟩ := h
  refine wpList_mapUpdate_own w hg m x v 58 hop 9 3 keyS_ Tryd.underlying58 _ b n D hm h1 hn (.string s) (.int .i64 i) (.string s.data.toList) hx hv (key_string hs) (.lit (.int .i64 i)) [] (plainElem_int Tryd.underlying3 hi) ?_
  intro w1 hown hgrow
  refine hK w1 ⟨_, hown, h2.put _ _, fun t => ?_⟩ hgrow
  have hlit : WideAt.IsKeyLit (.string s.data.toList) := by first | trivial | rfl | (unfold WideAt.IsKeyLit; trivial)
  by_cases e : t = s
  · subst e
    simp only [↓reduceIte]
    exact ⟨has_put_same h2 hlit _, fun v hv => by injection hv with hv; subst hv; exact atKey_put_same h2 hlit _ _⟩
  · simp only [if_neg e]
    have hne : (Lit.string t.data.toList) ≠ .string s.data.toList := fun h => e (by
      injection h with h
      obtain ⟨⟨l⟩⟩ := t; obtain ⟨⟨l'⟩⟩ := s
      simp only at h; rw [h])
    rw [has_put_other hne, atKey_put_other hne]
    exact h3 t
end Go.Proofs.YtgimhjkijpcgjaaDoor
namespace Go.Proofs.YtgimhjkijpcgjaaDoor
open Go.RowKit

theorem grown_of_below {w w' : World} (h : Below w.heap.size w w') (row : Option Nat) : w.grownBy w' row := ⟨h.os, h.tape, h.output, h.size, fun i hi _ => h.block i hi⟩
theorem own_below {w w' : World} {base : Nat} {e : TypeId} {size n : Nat} {v : Value} {xs : List Value} (h : w.ownsRow base e size v n xs) (hb : Below w.heap.size w w') : w'.ownsRow base e size v n xs :=
  h.kept (grown_of_below hb none) (by
    rcases h.2 with ⟨rfl, _⟩ | ⟨g, cap, cur, rfl, _⟩
    · exact .inl rfl
    · exact .inr (by simp [Value.ownBlock]))
theorem own_blocks {w w' : World} {base : Nat} {e : TypeId} {size n : Nat} {v : Value} {xs : List Value} (h : w.ownsRow base e size v n xs) (hb : ∀ b, base ≤ b → b < w.heap.size → w'.heap[b]? = w.heap[b]?) : w'.ownsRow base e size v n xs := by
  obtain ⟨h1, h2 | ⟨g, cap, cur, h3, h4, h5, h6⟩⟩ := h
  · exact ⟨h1, .inl h2⟩
  · exact ⟨h1, .inr ⟨g, cap, cur, h3, h4, (hb g h4 (Array.getElem?_eq_some_iff.1 h5).1).trans h5, h6⟩⟩
/-- Two rows whose element types differ never share a block. -/
theorem own_own_ne {w : World} {b b' : Nat} {e e' : TypeId} {s s' n n' : Nat} {v v' : Value} {xs xs' : List Value} (h : w.ownsRow b e s v n xs) (h' : w.ownsRow b' e' s' v' n' xs') (hne : e ≠ e') : v.ownBlock = none ∨ v.ownBlock ≠ v'.ownBlock := by
  rcases h.2 with ⟨rfl, _⟩ | ⟨g, cap, cur, rfl, _, hh, _⟩
  · exact .inl rfl
  · refine .inr ?_
    rcases h'.2 with ⟨rfl, _⟩ | ⟨g', cap', cur', rfl, _, hh', _⟩
    · simp [Value.ownBlock]
    · intro he
      have : g = g' := by simpa [Value.ownBlock] using he
      subst this
      rw [hh] at hh'; injection hh' with hh'; injection hh' with _ ht
      exact hne ht
theorem own_mono {w : World} {b b' : Nat} {e : TypeId} {s n : Nat} {v : Value} {xs : List Value} (h : w.ownsRow b e s v n xs) (hb : b' ≤ b) : w.ownsRow b' e s v n xs := by
  obtain ⟨h1, h2 | ⟨g, cap, cur, h3, h4, h5⟩⟩ := h
  · exact ⟨h1, .inl h2⟩
  · exact ⟨h1, .inr ⟨g, cap, cur, h3, Nat.le_trans hb h4, h5⟩⟩

theorem grown_setCell (w : World) (p : Addr) (u : Value) : w.grownBy (w.setCell p u) (some p.block) :=
  ⟨rfl, rfl, rfl, by simp [World.setCell], fun k _ hne => Below.heap_setCell _ _ _ _ (fun e => hne (by rw [e]))⟩
/-- A row (elements of type e1) of rows (elements of type e0). -/
def OwnM (w : World) (base : Nat) (e1 e0 : TypeId) (v : Value) (gs : List (List Value)) : Prop :=
  ∃ vs : List Value, w.ownsRow base e1 1 v gs.length vs ∧ vs.length = gs.length ∧ ∀ (k : Nat) (hk : k < gs.length), ∃ u, vs[k]? = some u ∧ w.ownsRow base e0 1 u gs[k].length gs[k]

section
variable {w w' : World} {base : Nat} {e1 e0 : TypeId} {v : Value} {gs : List (List Value)}
theorem OwnM.nil_ (w : World) (base : Nat) (e1 e0 : TypeId) : OwnM w base e1 e0 (.slice none 0 0) [] := ⟨[], World.ownsRow_nil _ _ _ _, rfl, fun k hk => absurd hk (by simp)⟩
theorem OwnM.below (h : OwnM w base e1 e0 v gs) (hb : Below w.heap.size w w') : OwnM w' base e1 e0 v gs := by
  obtain ⟨vs, h1, h2, h3⟩ := h
  refine ⟨vs, own_below h1 hb, h2, fun k hk => ?_⟩
  obtain ⟨u, hu, ho⟩ := h3 k hk
  exact ⟨u, hu, own_below ho hb⟩
theorem OwnM.alloc (h : OwnM w base e1 e0 v gs) (o : Obj) : OwnM (w.alloc o) base e1 e0 v gs := h.below ((Below.refl _ _).alloc (Nat.le_refl _) o)
theorem OwnM.mono {b' : Nat} (h : OwnM w base e1 e0 v gs) (hb : b' ≤ base) : OwnM w b' e1 e0 v gs := by
  obtain ⟨vs, h1, h2, h3⟩ := h
  refine ⟨vs, own_mono h1 hb, h2, fun k hk => ?_⟩
  obtain ⟨u, hu, ho⟩ := h3 k hk
  exact ⟨u, hu, own_mono ho hb⟩
/-- A write to a block of another element type. -/
theorem OwnM.other {r : Nat} {cs : Array Value} {t : TypeId} (h : OwnM w base e1 e0 v gs) (hg : w.grownBy w' (some r)) (hr : Blk w r t cs) (h1 : e1 ≠ t) (h0 : e0 ≠ t) : OwnM w' base e1 e0 v gs := by
  obtain ⟨vs, h1', h2, h3⟩ := h
  refine ⟨vs, h1'.kept hg (.inr (own_blk_ne h1' hr h1)), h2, fun k hk => ?_⟩
  obtain ⟨u, hu, ho⟩ := h3 k hk
  exact ⟨u, hu, ho.kept hg (.inr (own_blk_ne ho hr h0))⟩
/-- A write below the base. -/
theorem OwnM.low {row : Option Nat} (h : OwnM w base e1 e0 v gs) (hg : w.grownBy w' row) (hr : ∀ r, row = some r → r < base) : OwnM w' base e1 e0 v gs := by
  obtain ⟨vs, h1', h2, h3⟩ := h
  have ne : ∀ {u : Value} {e n xs}, w.ownsRow base e 1 u n xs → u.ownBlock = none ∨ u.ownBlock ≠ row := fun {u e n xs} hu => by
    cases hb : u.ownBlock with
    | none => exact .inl rfl
    | some k => exact .inr (fun e => by have := hr k e.symm; have := (hu.lt k hb).1; omega)
  refine ⟨vs, h1'.kept hg (ne h1'), h2, fun k hk => ?_⟩
  obtain ⟨u, hu, ho⟩ := h3 k hk
  exact ⟨u, hu, ho.kept hg (ne ho)⟩
/-- Behind an append of one row. -/
theorem OwnM.push {u v' : Value} {xs : List Value} (h : OwnM w base e1 e0 v gs) (hne : e0 ≠ e1) (hu : w.ownsRow base e0 1 u xs.length xs)
    {n : Nat} {vs : List Value} (hv : w.ownsRow base e1 1 v n vs) (hg : w.grownBy w' v.ownBlock) (hown : w'.ownsRow base e1 1 v' (n + 1) (vs ++ [u])) : OwnM w' base e1 e0 v' (gs ++ [xs]) := by
  obtain ⟨vs0, h1, h2, h3⟩ := h
  obtain ⟨rfl, rfl⟩ : n = gs.length ∧ vs = vs0 := by
    have a := h1.1; have b := hv.1
    rcases h1.2 with ⟨e, hz⟩ | ⟨g, cap, cur, e, _, hh, _, _, _, ht⟩
    · subst e
      rcases hv.2 with ⟨_, hz'⟩ | ⟨g', cap', cur', e', _⟩
      · subst hz'; rw [hz] at a ⊢; simp at a b; exact ⟨rfl, by rw [a, b]⟩
      · cases e'
    · subst e
      rcases hv.2 with ⟨e', _⟩ | ⟨g', cap', cur', e', _, hh', _, _, _, ht'⟩
      · cases e'
      · injection e' with e1' e2' e3'
        injection e1' with e1'
        injection e1' with e1'
        subst e1'
        rw [hh] at hh'; injection hh' with hh'; injection hh' with hh'
        subst hh' 
        rw [← e2'] at ht' ⊢
        exact ⟨rfl, by rw [← ht, ← ht']⟩
  refine ⟨vs ++ [u], by simpa using hown, by simp [h2], fun k hk => ?_⟩
  by_cases hlt : k < gs.length
  · obtain ⟨u', hu', ho⟩ := h3 k hlt
    refine ⟨u', by rw [List.getElem?_append_left (by omega)]; exact hu', ?_⟩
    rw [List.getElem_append_left hlt]
    exact ho.kept hg (own_own_ne ho hv hne)
  · simp at hk
    obtain rfl : k = gs.length := by omega
    refine ⟨u, by rw [← h2]; simp, ?_⟩
    rw [List.getElem_append_right (by omega)]
    simp only [Nat.sub_self, List.getElem_cons_zero]
    exact hu.kept hg (own_own_ne hu hv hne)
/-- What a reader of one row meets. -/
theorem OwnM.at_ (h : OwnM w base e1 e0 v gs) {k : Nat} (hk : k < gs.length) :
    ∃ (g c : Nat) (u : Value), v = .slice (some ⟨g, 0, none⟩) gs.length c ∧ w.cell? ⟨g, k, none⟩ = some u ∧ w.ownsRow base e0 1 u gs[k].length gs[k] := by
  obtain ⟨vs, h1, h2, h3⟩ := h
  obtain ⟨u, hu, ho⟩ := h3 k hk
  obtain ⟨g, c, hv, _, _⟩ := h1.form (by omega)
  subst hv
  exact ⟨g, c, u, rfl, by rw [h1.cellAt k (by omega)]; exact hu, ho⟩
theorem OwnM.form (h : OwnM w base e1 e0 v gs) : ∃ A c, v = .slice A gs.length c ∧ gs.length ≤ c ∧ c ≤ maxLen := by
  obtain ⟨vs, h1, _⟩ := h
  exact ownsRow_form h1
end
end Go.Proofs.YtgimhjkijpcgjaaDoor
namespace Go.Proofs.YtgimhjkijpcgjaaDoor
open Go.RowKit

theorem region_tail {P : Program} {id : Nat} {Q : Exit → Act → World → Prop} {a : Act} {w : World} {l : List Oper} (n : Nat) (hm : P.follows .mixedOrders = true) (hB : Region.lexTailB .any l.toArray n = true)
    (h : wpStill P l.toArray w.drew (fun a' => wpList P l.toArray Q (l.drop n) a' w.drew) (l.take n) a) : (Code.region id l.toArray true).wp P Q a w := wp_region_still_tail n hm hB h
theorem add_at (b j : Nat) : (⟨b, 0, none⟩ : Addr).add j = ⟨b, j, none⟩ := by unfold Addr.add; split <;> simp_all
/-- A block that was just made reads as what lies in it. -/
theorem reads_new (w : World) (t : TypeId) (cs : List Value) : Reads (w.alloc (.cells cs.toArray t)) (w.heap.size + 1) 1 (some ⟨w.heap.size, 0, none⟩) cs.length cs := by
  refine ⟨by simp, fun _ => ⟨_, rfl, by simp, fun j u hu => ?_⟩⟩
  rw [add_at, (Blk.new w t cs.toArray).cell j]
  simpa using hu
end Go.Proofs.YtgimhjkijpcgjaaDoor
