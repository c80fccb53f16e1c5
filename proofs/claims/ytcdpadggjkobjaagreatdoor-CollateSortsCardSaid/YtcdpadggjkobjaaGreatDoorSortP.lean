/-
  Plain facts of layer 39: texts in order; how many begin with each group. Conditions: none.
-/
import Derived.Test.YtcdpadggjkobjaaGreatDoorOrdLaws
namespace Go.Proofs.YtcdpadggjkobjaaGreatDoor
open Go.RowKit Go.Lib

/-- A text with its key. -/
abbrev Ent := List Int × ByteArray
def befE (x y : Ent) : Int := beforeV x.1 y.1 x.2 y.2
theorem befE_anti (x y : Ent) : befE x y = - befE y x := beforeV_anti _ _ _ _
theorem befE_range (x y : Ent) : befE x y = -1 ∨ befE x y = 0 ∨ befE x y = 1 := beforeV_range _ _ _ _
theorem befE_trans {x y z : Ent} (h1 : befE x y ≤ 0) (h2 : befE y z ≤ 0) : befE x z ≤ 0 := beforeV_trans _ _ _ _ _ _ h1 h2
theorem befE_self (x : Ent) : befE x x = 0 := beforeV_self _ _
theorem befE_zero {x y : Ent} (h : befE x y = 0) : x = y := by
  unfold befE at h
  rw [beforeV_eq] at h
  by_cases hk : cmpL x.1 y.1 = 0
  · rw [if_pos hk] at h
    exact Prod.ext ((cmpL_eq _ _).1 hk) (bl_inj ((cmpB_eq _ _).1 h))
  · rw [if_neg hk] at h; exact absurd h hk
def leE (x y : Ent) : Bool := decide (befE x y ≤ 0)
theorem leE_iff (x y : Ent) : leE x y = true ↔ befE x y ≤ 0 := decide_eq_true_iff
def SortedE (es : List Ent) : Prop := es.Pairwise fun x y => befE x y ≤ 0
def sortE (es : List Ent) : List Ent := es.mergeSort leE
theorem sortE_perm (es : List Ent) : (sortE es).Perm es := List.mergeSort_perm _ _
theorem sortE_sorted (es : List Ent) : SortedE (sortE es) := by
  have h := List.pairwise_mergeSort (le := leE) (fun a b c h1 h2 => by rw [leE_iff] at *; exact befE_trans h1 h2) (fun a b => by
    have := befE_anti a b
    rw [Bool.or_eq_true, leE_iff, leE_iff]; omega) es
  exact h.imp (fun {a b} hab => (leE_iff a b).1 hab)
theorem sortE_unique {es l : List Ent} (hp : l.Perm es) (hs : SortedE l) : l = sortE es :=
  List.Perm.eq_of_pairwise (le := fun x y => befE x y ≤ 0) (fun a b _ _ h1 h2 => befE_zero (by have := befE_anti a b; omega)) hs (sortE_sorted es) (hp.trans (sortE_perm es).symm)
theorem sortE_length (es : List Ent) : (sortE es).length = es.length := (sortE_perm es).length_eq

/-- The error of the first text that has one. -/
def errL (gs : List (List ByteArray)) : List ByteArray → Int
  | [] => 0
  | s :: l => if (readRes gs s).1 = 0 then errL gs l else (readRes gs s).1
theorem errL_append (gs : List (List ByteArray)) (a b : List ByteArray) : errL gs (a ++ b) = if errL gs a = 0 then errL gs b else errL gs a := by
  induction a with
  | nil => rfl
  | cons s a ih =>
    by_cases h : (readRes gs s).1 = 0
    · have e1 : errL gs (s :: a) = errL gs a := by simp only [errL]; rw [if_pos h]
      have e2 : errL gs (s :: a ++ b) = errL gs (a ++ b) := by simp only [List.cons_append, errL]; rw [if_pos h]
      rw [e1, e2, ih]
    · have e1 : errL gs (s :: a) = (readRes gs s).1 := by simp only [errL]; rw [if_neg h]
      have e2 : errL gs (s :: a ++ b) = (readRes gs s).1 := by simp only [List.cons_append, errL]; rw [if_neg h]
      rw [e1, e2, if_neg h]
theorem errL_succ {gs : List (List ByteArray)} {l : List ByteArray} {k : Nat} (hk : k < l.length) (h : errL gs (l.take k) = 0) : errL gs (l.take (k + 1)) = (readRes gs l[k]).1 := by
  rw [List.take_succ_eq_append_getElem hk, errL_append, if_pos h]
  simp only [errL]
  by_cases h0 : (readRes gs l[k]).1 = 0
  · rw [if_pos h0, h0]
  · rw [if_neg h0]
theorem errL_stop {gs : List (List ByteArray)} {l : List ByteArray} {k : Nat} (h : errL gs (l.take k) ≠ 0) : errL gs l = errL gs (l.take k) := by
  conv => lhs; rw [← List.take_append_drop k l, errL_append, if_neg h]
theorem errL_zero {gs : List (List ByteArray)} {l : List ByteArray} : errL gs l = 0 ↔ ∀ s ∈ l, (readRes gs s).1 = 0 := by
  induction l with
  | nil => simp [errL]
  | cons s l ih =>
    simp only [errL, List.mem_cons, forall_eq_or_imp]
    by_cases h : (readRes gs s).1 = 0
    · rw [if_pos h, ih]; simp [h]
    · rw [if_neg h]; simp [h]
def entOf (gs : List (List ByteArray)) (s : ByteArray) : Ent := (keyS (readRes gs s).2, s)
def entsL (gs : List (List ByteArray)) (l : List ByteArray) : List Ent := l.map (entOf gs)
theorem entsL_length (gs : List (List ByteArray)) (l : List ByteArray) : (entsL gs l).length = l.length := by simp [entsL]
theorem entsL_take_succ {gs : List (List ByteArray)} {l : List ByteArray} {k : Nat} (hk : k < l.length) : entsL gs (l.take (k + 1)) = entsL gs (l.take k) ++ [(keyS (readRes gs l[k]).2, l[k])] := by
  unfold entsL; rw [List.take_succ_eq_append_getElem hk, List.map_append]; rfl
/-- What 'sorted' comes to: the error; the texts with their keys. -/
def sortRes (gs : List (List ByteArray)) (l : List ByteArray) : Int × List Ent :=
  if 256 < l.length then (12, []) else if errL gs l = 0 then (0, sortE (entsL gs l)) else (errL gs l, [])
def sortResO : Option (List (List ByteArray)) → List ByteArray → Int × List Ent
  | none, _ => (1, [])
  | some gs, l => sortRes gs l
theorem sortRes_many {gs : List (List ByteArray)} {l : List ByteArray} (h : 256 < l.length) : sortRes gs l = (12, []) := by unfold sortRes; rw [if_pos h]
theorem sortRes_ok {gs : List (List ByteArray)} {l : List ByteArray} (h : l.length ≤ 256) (h1 : errL gs l = 0) : sortRes gs l = (0, sortE (entsL gs l)) := by
  unfold sortRes; rw [if_neg (by omega), if_pos h1]
theorem sortRes_bad {gs : List (List ByteArray)} {l : List ByteArray} (h : l.length ≤ 256) (h1 : errL gs l ≠ 0) : sortRes gs l = (errL gs l, []) := by
  unfold sortRes; rw [if_neg (by omega), if_neg h1]
theorem sortRes_mem {gs : List (List ByteArray)} {l : List ByteArray} {e : Ent} (h : e ∈ (sortRes gs l).2) : e.2 ∈ l ∧ e = entOf gs e.2 ∧ (readRes gs e.2).1 = 0 := by
  unfold sortRes at h
  split at h
  · cases h
  · split at h
    · rename_i h1
      have hm := (sortE_perm _).mem_iff.1 h
      obtain ⟨s, hs, rfl⟩ := List.mem_map.1 hm
      exact ⟨hs, rfl, errL_zero.1 h1 s hs⟩
    · cases h
theorem sortResO_err {og : Option (List (List ByteArray))} {l : List ByteArray} (h : (sortResO og l).1 ≠ 0) : (sortResO og l).2 = [] := by
  cases og with
  | none => rfl
  | some gs =>
    show (sortRes gs l).2 = []
    replace h : (sortRes gs l).1 ≠ 0 := h
    unfold sortRes at h ⊢
    split
    · rfl
    · split
      · rename_i h1 h2; rw [if_neg h1, if_pos h2] at h; exact absurd rfl h
      · rfl
def textsE (es : List Ent) : List ByteArray := es.map (·.2)
theorem textsE_length (es : List Ent) : (textsE es).length = es.length := by simp [textsE]
/-- The texts between two. -/
def betw (x y : Ent) (es : List Ent) : List Ent := es.filter fun z => decide (befE x z ≤ 0) && decide (befE z y ≤ 0)

/-! Heads. -/
def firsts (es : List Ent) : List Int := es.filterMap fun e => e.1.head?
theorem firsts_snoc (es : List Ent) (e : Ent) : firsts (es ++ [e]) = firsts es ++ e.1.head?.toList := by
  unfold firsts; rw [List.filterMap_append]; cases h : e.1.head? <;> simp [h]
theorem firsts_le {x y : Ent} {a b : Int} (h : befE x y ≤ 0) (hx : x.1.head? = some a) (hy : y.1.head? = some b) : a ≤ b := by
  obtain ⟨kx, tx⟩ := x
  obtain ⟨ky, ty⟩ := y
  cases kx with
  | nil => cases hx
  | cons a' l =>
    cases ky with
    | nil => cases hy
    | cons b' m =>
      simp only [List.head?_cons, Option.some.injEq] at hx hy
      subst hx hy
      have h' : befE (a' :: l, tx) (b' :: m, ty) = if cmpL (a' :: l) (b' :: m) = 0 then Lib.compareBytes (bl tx) (bl ty) else cmpL (a' :: l) (b' :: m) := beforeV_eq _ _ _ _
      rw [h'] at h
      by_cases hc : cmpI a' b' = 0
      · have := cmpI_zero hc; omega
      · have hcl : cmpL (a' :: l) (b' :: m) = cmpI a' b' := by simp only [cmpL]; rw [if_neg hc]
        rw [hcl, if_neg hc] at h
        exact (cmpI_le a' b').1 h
theorem firsts_sorted {es : List Ent} (h : SortedE es) : (firsts es).Pairwise (· ≤ ·) := by
  unfold firsts
  rw [List.pairwise_filterMap]
  exact List.Pairwise.imp (fun {x y} hxy => fun b hb b' hb' => firsts_le hxy hb hb') h
/-- The groups with which something begins, and how often. -/
def rleN (n : Nat) (ks : List Int) : List (Nat × Nat) := (List.range n).filterMap fun (g : Nat) => if 0 < ks.count (g : Int) then some (g, ks.count (g : Int)) else none
theorem rleN_perm (n : Nat) {ks ks' : List Int} (h : ks.Perm ks') : rleN n ks = rleN n ks' := by
  unfold rleN
  congr 1
  funext g
  rw [h.count_eq]
def rleHi (a r : Nat) (ks : List Int) : List (Nat × Nat) := (List.range r).filterMap fun (g : Nat) => if 0 < ks.count ((a + 1 + g : Nat) : Int) then some (a + 1 + g, ks.count ((a + 1 + g : Nat) : Int)) else none
theorem rleN_split (a r : Nat) (ks : List Int) : rleN (a + 1 + r) ks = rleN a ks ++ (if 0 < ks.count (a : Int) then [(a, ks.count (a : Int))] else []) ++ rleHi a r ks := by
  unfold rleN rleHi
  rw [List.range_add, List.filterMap_append, List.range_succ, List.filterMap_append, List.filterMap_map]
  congr 2
  simp only [List.filterMap_cons, List.filterMap_nil]
  split <;> rename_i h <;> split at h <;> simp_all
theorem rleHi_nil {a r : Nat} {ks : List Int} (h : ∀ x ∈ ks, x ≤ (a : Int)) : rleHi a r ks = [] := by
  unfold rleHi
  rw [List.filterMap_eq_nil_iff]
  intro g _
  rw [if_neg]
  intro h0
  have := h _ (List.count_pos_iff.1 h0)
  omega
theorem filterMap_same {α β : Type} {f g : α → Option β} {l : List α} (h : ∀ x ∈ l, f x = g x) : l.filterMap f = l.filterMap g := by
  induction l with
  | nil => rfl
  | cons a l ih => rw [List.filterMap_cons, List.filterMap_cons, h a (by simp), ih (fun x hx => h x (by simp [hx]))]
theorem rleN_snoc_low {a : Nat} {ks : List Int} : rleN a (ks ++ [(a : Int)]) = rleN a ks := by
  unfold rleN
  refine filterMap_same fun g hg => ?_
  rw [List.mem_range] at hg
  have : (ks ++ [(a : Int)]).count (g : Int) = ks.count (g : Int) := by
    rw [List.count_append, List.count_cons_of_ne (by omega)]; simp
  rw [this]
theorem rleN_first {a n : Nat} {ks : List Int} (han : a < n) (h : ∀ x ∈ ks, x ≤ (a : Int)) (hn : (a : Int) ∉ ks) : rleN n (ks ++ [(a : Int)]) = rleN n ks ++ [(a, 1)] := by
  obtain ⟨r, rfl⟩ : ∃ r, n = a + 1 + r := ⟨n - (a + 1), by omega⟩
  have h' : ∀ x ∈ ks ++ [(a : Int)], x ≤ (a : Int) := fun x hx => by
    rcases List.mem_append.1 hx with hx | hx
    · exact h x hx
    · rw [List.mem_singleton.1 hx]; exact Int.le_refl _
  have hc : (ks ++ [(a : Int)]).count (a : Int) = 1 := by rw [List.count_append, List.count_eq_zero.2 hn]; simp
  rw [rleN_split, rleN_split, rleHi_nil h, rleHi_nil h', rleN_snoc_low, hc, List.count_eq_zero.2 hn]
  simp
theorem rleN_more {a n : Nat} {ks : List Int} (han : a < n) (h : ∀ x ∈ ks, x ≤ (a : Int)) (hm : (a : Int) ∈ ks) :
    ∃ pre m, rleN n ks = pre ++ [(a, m)] ∧ rleN n (ks ++ [(a : Int)]) = pre ++ [(a, m + 1)] ∧ m ≤ ks.length := by
  obtain ⟨r, rfl⟩ : ∃ r, n = a + 1 + r := ⟨n - (a + 1), by omega⟩
  have h' : ∀ x ∈ ks ++ [(a : Int)], x ≤ (a : Int) := fun x hx => by
    rcases List.mem_append.1 hx with hx | hx
    · exact h x hx
    · rw [List.mem_singleton.1 hx]; exact Int.le_refl _
  have hp : 0 < ks.count (a : Int) := List.count_pos_iff.2 hm
  have hc : (ks ++ [(a : Int)]).count (a : Int) = ks.count (a : Int) + 1 := by rw [List.count_append]; simp
  refine ⟨rleN a ks, ks.count (a : Int), ?_, ?_, List.count_le_length⟩
  · rw [rleN_split, rleHi_nil h, if_pos hp]; simp
  · rw [rleN_split, rleHi_nil h', rleN_snoc_low, hc, if_pos (by omega)]; simp
/-- The last place that was met: -1 ahead of all. -/
def lastK (ks : List Int) : Int := ks.getLast?.getD (-1)
theorem lastK_snoc (ks : List Int) (a : Int) : lastK (ks ++ [a]) = a := by simp [lastK]
theorem lastK_mem {ks : List Int} {a : Int} (hs : ks.Pairwise (· ≤ ·)) (h : ∀ x ∈ ks, x ≤ a) (h0 : 0 ≤ a) : lastK ks = a ↔ a ∈ ks := by
  induction ks using mem_of_foldr_rev with
  | h0 => simp [lastK]; omega
  | h1 ks b ih =>
    rw [lastK_snoc]
    constructor
    · rintro rfl; simp
    · intro hm
      rw [List.pairwise_append] at hs
      have hb := h b (by simp)
      rcases List.mem_append.1 hm with hm | hm
      · have := hs.2.2 a hm b (by simp); omega
      · exact (List.mem_singleton.1 hm).symm
/-- An error, and a new row of texts. -/
def TextsPost (w : World) (r : Int × List ByteArray) (e : Ending) (w' : World) : Prop :=
  ∃ v, e = .returned (.tuple #[v, .int .i64 r.1]) ∧ w'.ownsRow w.heap.size 9 1 v r.2.length (strs r.2) ∧ Below w.heap.size w w'
theorem textsPost_none (w : World) (k : Int) (w' : World) (hb : Below w.heap.size w w') : TextsPost w (k, []) (.returned (.tuple #[.slice none 0 0, .int .i64 k])) w' :=
  ⟨_, rfl, World.ownsRow_nil _ _ _ _, hb⟩
theorem TextsPost.form {w w' : World} {r : Int × List ByteArray} {e : Ending} (h : TextsPost w r e w') :
    ∃ A n c, e = .returned (.tuple #[.slice A n c, .int .i64 r.1]) ∧ w'.ownsRow w.heap.size 9 1 (.slice A n c) n (strs r.2) ∧ n = r.2.length ∧ n ≤ c ∧ c ≤ maxLen ∧ Below w.heap.size w w' := by
  obtain ⟨v, rfl, ho, hb⟩ := h
  obtain ⟨A, c, rfl, h1, h2⟩ := ownsRow_form ho
  exact ⟨A, _, c, rfl, ho, rfl, h1, h2, hb⟩
def sortedT (r : Int × List Ent) : Int × List ByteArray := (r.1, textsE r.2)
/-- What Between comes to. -/
def betwRes (r : Int × List Ent) (r1 r2 : Res) (s t : ByteArray) : Int × List ByteArray :=
  if r.1 = 0 then if errTwo r1 r2 = 0 then (0, textsE (betw (keyS r1.2, s) (keyS r2.2, t) r.2)) else (errTwo r1 r2, []) else (r.1, [])
theorem betwRes_ok {r : Int × List Ent} {r1 r2 : Res} {s t : ByteArray} (h : r.1 = 0) (h1 : errTwo r1 r2 = 0) : betwRes r r1 r2 s t = (0, textsE (betw (keyS r1.2, s) (keyS r2.2, t) r.2)) := by unfold betwRes; rw [if_pos h, if_pos h1]
theorem betwRes_no {r : Int × List Ent} {r1 r2 : Res} {s t : ByteArray} (h : r.1 = 0) (h1 : errTwo r1 r2 ≠ 0) : betwRes r r1 r2 s t = (errTwo r1 r2, []) := by unfold betwRes; rw [if_pos h, if_neg h1]
theorem betwRes_bad {r : Int × List Ent} {r1 r2 : Res} {s t : ByteArray} (h : r.1 ≠ 0) : betwRes r r1 r2 s t = (r.1, []) := by unfold betwRes; rw [if_neg h]
/-- The first letter of a group. -/
def headG (gs : List (List ByteArray)) (g : Nat) : ByteArray := (gs.getD g []).headD ⟨#[]⟩
def headsL (gs : List (List ByteArray)) (R : List (Nat × Nat)) : List ByteArray := R.map fun p => headG gs p.1
def countsL (R : List (Nat × Nat)) : List Int := R.map fun p => (p.2 : Int)
/-- What Heads comes to: the error; the groups, with how many texts begin with each. -/
def headsRes (gs : List (List ByteArray)) (r : Int × List Ent) : Int × List (Nat × Nat) := (r.1, if r.1 = 0 then rleN gs.length (firsts r.2) else [])
def headsResO : Option (List (List ByteArray)) → List ByteArray → Int × List ByteArray × List Int
  | none, _ => (1, [], [])
  | some gs, l => ((sortRes gs l).1, headsL gs (headsRes gs (sortRes gs l)).2, countsL (headsRes gs (sortRes gs l)).2)
def HeadsPost (w : World) (r : Int × List ByteArray × List Int) (e : Ending) (w' : World) : Prop :=
  ∃ v v', e = .returned (.tuple #[v, v', .int .i64 r.1]) ∧ w'.ownsRow w.heap.size 9 1 v r.2.1.length (strs r.2.1) ∧ w'.ownsRow w.heap.size 3 1 v' r.2.2.length (ints r.2.2) ∧ Below w.heap.size w w'
theorem HeadsPost.form {w w' : World} {r : Int × List ByteArray × List Int} {e : Ending} (h : HeadsPost w r e w') :
    ∃ A n c B m d, e = .returned (.tuple #[.slice A n c, .slice B m d, .int .i64 r.1]) ∧ w'.ownsRow w.heap.size 9 1 (.slice A n c) n (strs r.2.1) ∧ n = r.2.1.length ∧ n ≤ c ∧ c ≤ maxLen ∧
      w'.ownsRow w.heap.size 3 1 (.slice B m d) m (ints r.2.2) ∧ m = r.2.2.length ∧ m ≤ d ∧ d ≤ maxLen ∧ Below w.heap.size w w' := by
  obtain ⟨v, v', rfl, ho, ho', hb⟩ := h
  obtain ⟨A, c, rfl, h1, h2⟩ := ownsRow_form ho
  obtain ⟨B, d, rfl, h3, h4⟩ := ownsRow_form ho'
  exact ⟨A, _, c, B, _, d, rfl, ho, rfl, h1, h2, ho', rfl, h3, h4, hb⟩
/-- A place is that of a group that has a letter. -/
def PlaceOk (gs : List (List ByteArray)) (a : Int) : Prop := ∃ g : Nat, a = g ∧ ∃ h : g < gs.length, gs[g] ≠ []
theorem parse_places (gs : List (List ByteArray)) : ∀ (n : Nat) (s : ByteArray) (es : List (ByteArray × Int)), s.size ≤ n → parse gs s = some es → ∀ e ∈ es, PlaceOk gs e.2 := by
  intro n
  induction n with
  | zero => intro s es h h1 e he; rw [parse_nil gs (by omega)] at h1; injection h1 with h1; subst h1; cases he
  | succ n ih =>
    intro s es h h1 e he
    cases es with
    | nil => cases he
    | cons e0 es =>
      obtain ⟨h2, h3, h4, h5⟩ := parse_head h1
      obtain ⟨x, hx, h6, _⟩ := longest_ent h3
      have h7 := longest_pos h3
      rw [h4] at h7 h6
      rcases List.mem_cons.1 he with rfl | he
      · obtain ⟨l, hl, hm⟩ := mem_ents.1 hx
        obtain ⟨hlt, hg⟩ := List.getElem?_eq_some_iff.1 hl
        refine ⟨x.2, by rw [h6], hlt, fun e => ?_⟩
        rw [hg] at e; rw [e] at hm; cases hm
      · exact ih _ _ (by rw [dropB_size]; omega) h5 e he
theorem entOf_places {gs : List (List ByteArray)} {s : ByteArray} {a : Int} (h : a ∈ (entOf gs s).1) : PlaceOk gs a := by
  unfold entOf readRes at h
  split at h
  · cases h
  · cases hp : parse gs s with
    | none => rw [hp] at h; cases h
    | some es =>
      rw [hp] at h
      obtain ⟨e, he, rfl⟩ := List.mem_map.1 h
      exact parse_places gs _ _ _ (Nat.le_refl _) hp e he
end Go.Proofs.YtcdpadggjkobjaaGreatDoor
namespace Go.Proofs.YtcdpadggjkobjaaGreatDoor
open Go.RowKit Go.Lib

/-- What is left. -/
def restE : List Ent → List Bool → List Ent
  | e :: es, t :: tk => if t = true then restE es tk else e :: restE es tk
  | _, _ => []
theorem restE_none (es : List Ent) : restE es (List.replicate es.length false) = es := by
  induction es with
  | nil => rfl
  | cons e es ih => rw [List.length_cons, List.replicate_succ, restE, if_neg (by decide), ih]
theorem restE_set : ∀ (es : List Ent) (tk : List Bool) (b : Nat) (hb : b < es.length) (hb' : b < tk.length), tk[b] = false → (restE es tk).Perm (es[b] :: restE es (tk.set b true))
  | e :: es, t :: tk, 0, _, _, h => by
    simp only [List.getElem_cons_zero] at h
    subst h
    rw [List.set_cons_zero, restE, restE, if_neg (by decide), if_pos rfl]
    exact List.Perm.refl _
  | e :: es, t :: tk, b + 1, hb, hb', h => by
    have ih := restE_set es tk b (by simpa using hb) (by simpa using hb') (by simpa using h)
    rw [List.set_cons_succ, restE, restE, List.getElem_cons_succ]
    cases t
    · rw [if_neg (by decide), if_neg (by decide)]
      exact (ih.cons e).trans (List.Perm.swap _ _ _)
    · rw [if_pos rfl, if_pos rfl]; exact ih
theorem mem_restE : ∀ {es : List Ent} {tk : List Bool} {e : Ent}, e ∈ restE es tk → ∃ j, ∃ (h : j < es.length) (h' : j < tk.length), tk[j] = false ∧ es[j] = e
  | [], _, e, h => by simp [restE] at h
  | _ :: _, [], e, h => by simp [restE] at h
  | x :: es, t :: tk, e, h => by
    rw [restE] at h
    cases t
    · rw [if_neg (by decide), List.mem_cons] at h
      rcases h with rfl | h
      · exact ⟨0, by simp, by simp, rfl, rfl⟩
      · obtain ⟨j, h1, h2, h3, h4⟩ := mem_restE h
        exact ⟨j + 1, by simpa using h1, by simpa using h2, by simpa using h3, by simpa using h4⟩
    · rw [if_pos rfl] at h
      obtain ⟨j, h1, h2, h3, h4⟩ := mem_restE h
      exact ⟨j + 1, by simpa using h1, by simpa using h2, by simpa using h3, by simpa using h4⟩
structure SelSt (es : List Ent) (tk : List Bool) (out : List Ent) : Prop where
  len : tk.length = es.length
  perm : (out ++ restE es tk).Perm es
  sorted : SortedE out
  low : ∀ x ∈ out, ∀ y ∈ restE es tk, befE x y ≤ 0
theorem SelSt.start (es : List Ent) : SelSt es (List.replicate es.length false) [] :=
  ⟨by simp, by rw [restE_none]; exact List.Perm.refl _, List.Pairwise.nil, fun x hx => by cases hx⟩
theorem SelSt.step {es : List Ent} {tk : List Bool} {out : List Ent} (h : SelSt es tk out) {b : Nat} (hb : b < es.length) (hb' : b < tk.length) (ht : tk[b] = false)
    (hm : ∀ j (h1 : j < es.length) (h2 : j < tk.length), tk[j] = false → befE es[b] es[j] ≤ 0) : SelSt es (tk.set b true) (out ++ [es[b]]) := by
  have hp := restE_set es tk b hb hb' ht
  have hin : es[b] ∈ restE es tk := hp.mem_iff.2 (by simp)
  refine ⟨by simpa using h.len, ?_, ?_, ?_⟩
  · refine List.Perm.trans ?_ h.perm
    rw [List.append_assoc]
    exact (List.Perm.refl out).append hp.symm
  · unfold SortedE
    rw [List.pairwise_append]
    refine ⟨h.sorted, List.pairwise_singleton _ _, fun x hx y hy => ?_⟩
    rw [List.mem_singleton.1 hy]
    exact h.low x hx _ hin
  · intro x hx y hy
    have hy' : y ∈ restE es tk := hp.mem_iff.2 (List.mem_cons_of_mem _ hy)
    rcases List.mem_append.1 hx with hx | hx
    · exact h.low x hx y hy'
    · rw [List.mem_singleton.1 hx]
      obtain ⟨j, h1, h2, h3, rfl⟩ := mem_restE hy'
      exact hm j h1 h2 h3
theorem SelSt.done {es : List Ent} {tk : List Bool} {out : List Ent} (h : SelSt es tk out) (hl : es.length ≤ out.length) : out = sortE es := by
  have h1 := h.perm.length_eq
  rw [List.length_append] at h1
  have h2 : restE es tk = [] := List.eq_nil_of_length_eq_zero (by omega)
  have h3 := h.perm
  rw [h2, List.append_nil] at h3
  exact sortE_unique h3 h.sorted
theorem SelSt.le {es : List Ent} {tk : List Bool} {out : List Ent} (h : SelSt es tk out) : out.length ≤ es.length := by
  have h1 := h.perm.length_eq
  rw [List.length_append] at h1; omega
theorem SelSt.some {es : List Ent} {tk : List Bool} {out : List Ent} (h : SelSt es tk out) (hl : out.length < es.length) : ∃ j, ∃ (_ : j < es.length) (h' : j < tk.length), tk[j] = false := by
  have h1 := h.perm.length_eq
  rw [List.length_append] at h1
  obtain ⟨e, he⟩ := List.exists_mem_of_length_pos (l := restE es tk) (by omega)
  obtain ⟨j, h1, h2, h3, _⟩ := mem_restE he
  exact ⟨j, h1, h2, h3⟩
/-- The best of those left, of the first i. -/
def BestSt (es : List Ent) (tk : List Bool) (i : Nat) (b : Int) : Prop :=
  (b = -1 ∧ ∀ j (_ : j < tk.length), j < i → tk[j] = true) ∨
  ∃ bn : Nat, b = bn ∧ bn < i ∧ ∃ (hb : bn < es.length) (hb' : bn < tk.length), tk[bn] = false ∧ ∀ j (_ : j < es.length) (_ : j < tk.length), j < i → tk[j] = false → befE es[bn] es[j] ≤ 0
theorem bestSt_start (es : List Ent) (tk : List Bool) : BestSt es tk 0 (-1) := .inl ⟨rfl, fun j _ h => absurd h (by omega)⟩
theorem bestSt_skip {es : List Ent} {tk : List Bool} {i : Nat} {b : Int} (h : BestSt es tk i b) (hi : i < tk.length) (ht : tk[i] = true) : BestSt es tk (i + 1) b := by
  rcases h with ⟨rfl, h⟩ | ⟨bn, rfl, h1, h2, h3, h4, h5⟩
  · exact .inl ⟨rfl, fun j hj hji => by
      by_cases e : j = i
      · subst e; exact ht
      · exact h j hj (by omega)⟩
  · refine .inr ⟨bn, rfl, by omega, h2, h3, h4, fun j hj hj' hji htj => ?_⟩
    by_cases e : j = i
    · subst e; rw [ht] at htj; cases htj
    · exact h5 j hj hj' (by omega) htj
theorem bestSt_first {es : List Ent} {tk : List Bool} {i : Nat} (h : BestSt es tk i (-1)) (hi : i < es.length) (hi' : i < tk.length) (ht : tk[i] = false) : BestSt es tk (i + 1) i := by
  rcases h with ⟨_, h⟩ | ⟨bn, hb, _⟩
  · refine .inr ⟨i, rfl, by omega, hi, hi', ht, fun j hj hj' hji htj => ?_⟩
    by_cases e : j = i
    · subst e; rw [befE_self]; exact Int.le_refl _
    · have := h j hj' (by omega); rw [htj] at this; cases this
  · omega
theorem bestSt_new {es : List Ent} {tk : List Bool} {i bn : Nat} (h : BestSt es tk i bn) (hi : i < es.length) (hi' : i < tk.length) (ht : tk[i] = false) (hb : bn < es.length) (hl : befE es[i] es[bn] < 0) : BestSt es tk (i + 1) i := by
  rcases h with ⟨hb, _⟩ | ⟨bn', he, h1, h2, h3, h4, h5⟩
  · omega
  · obtain rfl : bn = bn' := by omega
    refine .inr ⟨i, rfl, by omega, hi, hi', ht, fun j hj hj' hji htj => ?_⟩
    by_cases e : j = i
    · subst e; rw [befE_self]; exact Int.le_refl _
    · exact befE_trans (by omega) (h5 j hj hj' (by omega) htj)
theorem bestSt_old {es : List Ent} {tk : List Bool} {i bn : Nat} (h : BestSt es tk i bn) (hi : i < es.length) (hb : bn < es.length) (hl : ¬ befE es[i] es[bn] < 0) : BestSt es tk (i + 1) bn := by
  rcases h with ⟨hb, _⟩ | ⟨bn', he, h1, h2, h3, h4, h5⟩
  · omega
  · obtain rfl : bn = bn' := by omega
    refine .inr ⟨bn, rfl, by omega, h2, h3, h4, fun j hj hj' hji htj => ?_⟩
    by_cases e : j = i
    · subst e
      have := befE_anti es[bn] es[j]
      omega
    · exact h5 j hj hj' (by omega) htj
theorem bestSt_end {es : List Ent} {tk : List Bool} {out : List Ent} {b : Int} (h : BestSt es tk es.length b) (hS : SelSt es tk out) (hl : out.length < es.length) :
    ∃ bn : Nat, b = bn ∧ ∃ hb : bn < es.length, SelSt es (tk.set bn true) (out ++ [es[bn]]) := by
  rcases h with ⟨rfl, h⟩ | ⟨bn, rfl, h1, h2, h3, h4, h5⟩
  · obtain ⟨j, h1, h2, h3⟩ := hS.some hl
    have := h j h2 h1
    rw [h3] at this; cases this
  · exact ⟨bn, rfl, h2, hS.step h2 h3 h4 (fun j hj hj' ht => h5 j hj hj' hj ht)⟩
/-- 'before', by its parts. -/
theorem befE_lt (x y : Ent) : befE x y < 0 ↔ cmpL x.1 y.1 < 0 ∨ (cmpL x.1 y.1 = 0 ∧ Lib.compareBytes (bl x.2) (bl y.2) = -1) := by
  have h : befE x y = if cmpL x.1 y.1 = 0 then Lib.compareBytes (bl x.2) (bl y.2) else cmpL x.1 y.1 := beforeV_eq _ _ _ _
  rw [h]
  have hr := cmpB_range (bl x.2) (bl y.2)
  split <;> omega
end Go.Proofs.YtcdpadggjkobjaaGreatDoor
namespace Go.Proofs.YtcdpadggjkobjaaGreatDoor
open Go.RowKit Go.Lib

theorem betw_take (x y : Ent) (es : List Ent) {k : Nat} (hk : k < es.length) : textsE (betw x y (es.take (k + 1))) = textsE (betw x y (es.take k)) ++ if befE x es[k] ≤ 0 ∧ befE es[k] y ≤ 0 then [es[k].2] else [] := by
  rw [List.take_succ_eq_append_getElem hk]
  unfold betw
  rw [List.filter_append]
  by_cases h1 : befE x es[k] ≤ 0
  · by_cases h2 : befE es[k] y ≤ 0
    · rw [if_pos ⟨h1, h2⟩]; simp [textsE, h1, h2]
    · rw [if_neg (fun h => h2 h.2)]; simp [textsE, h2]
  · rw [if_neg (fun h => h1 h.1)]; simp [textsE, h1]
theorem headsL_snoc (gs : List (List ByteArray)) (R : List (Nat × Nat)) (a m : Nat) : headsL gs (R ++ [(a, m)]) = headsL gs R ++ [headG gs a] := by simp [headsL]
theorem countsL_snoc (R : List (Nat × Nat)) (a m : Nat) : countsL (R ++ [(a, m)]) = countsL R ++ [(m : Int)] := by simp [countsL]
theorem countsL_len (R : List (Nat × Nat)) : (countsL R).length = R.length := by simp [countsL]
theorem headsL_len (gs : List (List ByteArray)) (R : List (Nat × Nat)) : (headsL gs R).length = R.length := by simp [headsL]
theorem rleN_le (n : Nat) (ks : List Int) : (rleN n ks).length ≤ n := by
  unfold rleN
  refine Nat.le_trans (List.length_filterMap_le _ _) ?_
  simp
theorem rleN_len_le (n : Nat) {ks : List Int} : (rleN n ks).length ≤ ks.length := by
  have h : ∀ n, (rleN n ks).length + (ks.filter fun x => decide ((n : Int) ≤ x)).length ≤ ks.length := by
    intro n
    induction n with
    | zero => simp only [rleN, List.range_zero, List.filterMap_nil, List.length_nil, Nat.zero_add]; exact List.length_filter_le _ _
    | succ n ih =>
      have e : rleN (n + 1) ks = rleN n ks ++ (if 0 < ks.count (n : Int) then [(n, ks.count (n : Int))] else []) := by
        unfold rleN
        rw [List.range_succ, List.filterMap_append]
        congr 1
        simp only [List.filterMap_cons, List.filterMap_nil]
        split <;> rename_i h <;> split at h <;> simp_all
      rw [e, List.length_append]
      have h2 : (ks.filter fun x => decide (((n + 1 : Nat) : Int) ≤ x)).length + ks.count (n : Int) ≤ (ks.filter fun x => decide ((n : Int) ≤ x)).length := by
        clear ih e
        induction ks with
        | nil => simp
        | cons x ks ih =>
          rw [List.filter_cons, List.filter_cons, List.count_cons]
          by_cases hx : x = (n : Int)
          · subst hx
            rw [if_neg (by simp; omega), if_pos (by simp)]
            rw [if_pos (show decide ((n : Int) ≤ (n : Int)) = true by simp), List.length_cons]
            omega
          · rw [if_neg (show ¬ (x == (n : Int)) = true by simpa using hx)]
            by_cases h3 : (n : Int) ≤ x
            · rw [if_pos (by simp; omega), if_pos (by simpa using h3)]; simp only [List.length_cons]; omega
            · rw [if_neg (by simp; omega), if_neg (by simpa using h3)]; omega
      split
      · rename_i h3; simp only [List.length_singleton]; omega
      · simp only [List.length_nil]; omega
  have := h n
  omega
/-- The first letter of a group, in the program's memory. -/
theorem head_at {w : World} {v : Value} {base : Nat} {gs : List (List ByteArray)} (h : OwnM w base 22 9 v (strM gs)) {g : Nat} (hg : g < gs.length) (hne : gs[g] ≠ []) :
    ∃ (b c b' n' c' : Nat), v = .slice (some ⟨b, 0, none⟩) gs.length c ∧ w.cell? ⟨b, g, none⟩ = some (.slice (some ⟨b', 0, none⟩) n' c') ∧ 0 < n' ∧ n' ≤ maxLen ∧ w.cell? ⟨b', 0, none⟩ = some (.string (headG gs g)) := by
  have hl : (strM gs).length = gs.length := by simp
  obtain ⟨b, c, u, hv, hcu, hu⟩ := h.at_ (k := g) (by rw [hl]; exact hg)
  have hpos : 0 < gs[g].length := List.length_pos_iff.2 hne
  have e : (strM gs)[g]'(by rw [hl]; exact hg) = gs[g].map Value.string := by simp
  rw [e, List.length_map] at hu
  obtain ⟨b', c', rfl, _, _⟩ := World.ownsRow.form hu hpos
  obtain ⟨_, _, hvv, h1, h2⟩ := ownsRow_form hu
  refine ⟨b, c, b', _, c', by rw [← hl]; exact hv, hcu, hpos, ?_, ?_⟩
  · injection hvv with _ _ h3; subst h3; omega
  · rw [hu.cellAt 0 (by omega), List.getElem?_map, List.getElem?_eq_getElem hpos]
    unfold headG
    rw [List.getD, List.getElem?_eq_getElem hg]
    show some (Value.string gs[g][0]) = some (Value.string ((gs[g]).headD ⟨#[]⟩))
    rw [List.headD_eq_head?_getD, List.head?_eq_getElem?, List.getElem?_eq_getElem hpos]
    rfl
/-- The state of the program's loop. -/
structure HdSt (gs : List (List ByteArray)) (es : List Ent) (k : Nat) (R : List (Nat × Nat)) (last : Int) : Prop where
  rle : R = rleN gs.length (firsts (es.take k))
  last : last = lastK (firsts (es.take k))
theorem hdSt_empty {gs : List (List ByteArray)} {es : List Ent} {k : Nat} {R : List (Nat × Nat)} {last : Int} (h : HdSt gs es k R last) (hk : k < es.length) (he : es[k].1 = []) : HdSt gs es (k + 1) R last := by
  have e : firsts (es.take (k + 1)) = firsts (es.take k) := by
    rw [List.take_succ_eq_append_getElem hk, firsts_snoc, he]; simp
  exact ⟨by rw [e]; exact h.rle, by rw [e]; exact h.last⟩
theorem hdSt_next {gs : List (List ByteArray)} {es : List Ent} {k : Nat} {R : List (Nat × Nat)} {last : Int} (h : HdSt gs es k R last) (hs : SortedE es) (hk : k < es.length) {a : Nat} (ha : a < gs.length) {l : List Int} (he : es[k].1 = (a : Int) :: l) :
    (last ≠ a → HdSt gs es (k + 1) (R ++ [(a, 1)]) a) ∧ (last = a → ∃ pre m, R = pre ++ [(a, m)] ∧ HdSt gs es (k + 1) (pre ++ [(a, m + 1)]) a ∧ m ≤ k) := by
  have e : firsts (es.take (k + 1)) = firsts (es.take k) ++ [(a : Int)] := by
    rw [List.take_succ_eq_append_getElem hk, firsts_snoc, he]; simp
  have hsk : SortedE (es.take (k + 1)) := hs.sublist (List.take_sublist _ _)
  have hf := firsts_sorted hsk
  rw [e, List.pairwise_append] at hf
  have hle : ∀ x ∈ firsts (es.take k), x ≤ (a : Int) := fun x hx => hf.2.2 x hx a (by simp)
  have hm := lastK_mem hf.1 hle (by omega)
  have hkl : (firsts (es.take k)).length ≤ k := by
    refine Nat.le_trans (List.length_filterMap_le _ _) ?_
    rw [List.length_take]; omega
  refine ⟨fun hn => ?_, fun hn => ?_⟩
  · have hni : (a : Int) ∉ firsts (es.take k) := fun hi => hn (by rw [h.last]; exact hm.2 hi)
    exact ⟨by rw [e, rleN_first ha hle hni, h.rle], by rw [e, lastK_snoc]⟩
  · have hin : (a : Int) ∈ firsts (es.take k) := hm.1 (by rw [← h.last]; exact hn)
    obtain ⟨pre, m, h1, h2, h3⟩ := rleN_more ha hle hin
    exact ⟨pre, m, by rw [h.rle, h1], ⟨by rw [e, h2], by rw [e, lastK_snoc]⟩, by omega⟩
theorem HdSt.le {gs : List (List ByteArray)} {es : List Ent} {k : Nat} {R : List (Nat × Nat)} {last : Int} (h : HdSt gs es k R last) : R.length ≤ k := by
  rw [h.rle]
  refine Nat.le_trans (rleN_len_le _) ?_
  refine Nat.le_trans (List.length_filterMap_le _ _) ?_
  rw [List.length_take]; omega

end Go.Proofs.YtcdpadggjkobjaaGreatDoor
