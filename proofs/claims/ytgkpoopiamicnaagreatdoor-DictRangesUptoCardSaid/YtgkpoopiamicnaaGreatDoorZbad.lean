/-
  Plain facts of layer 39: places and lengths of letters ('placeF', 'mostF'); that the longest letter found downwards is the document's. Conditions: letters of 1 to 8 bytes, none twice.
-/
import Derived.Test.YtgkpoopiamicnaaGreatDoorZbac
import Derived.Test.YtgkpoopiamicnaaGreatDoorProg
import Derived.Test.YtgkpoopiamicnaaGreatDoorZbaa
import Derived.Maps.Own
import Derived.Maps.OwnSet
import Derived.Maps.OwnOps
import Derived.Test.YtgkpoopiamicnaaGreatDoorShelf
import Derived.Shelf.Abstract
namespace Go.Proofs.YtgkpoopiamicnaaGreatDoor
open Go.RowKit

def putF (f : ByteArray → Option Int) (e : ByteArray × Nat) : ByteArray → Option Int := fun t => if t = e.1 then some (e.2 : Int) else f t
def placeF (es : List (ByteArray × Nat)) : ByteArray → Option Int := es.foldl putF (fun _ => none)
def firstB (s : ByteArray) : UInt8 := (bl s).headD 0
def moreM (m : UInt8 → Int) (e : ByteArray × Nat) : UInt8 → Int := fun b => if b = firstB e.1 then max (m b) e.1.size else m b
def mostF (es : List (ByteArray × Nat)) : UInt8 → Int := es.foldl moreM (fun _ => 0)
theorem placeF_snoc (es : List (ByteArray × Nat)) (e : ByteArray × Nat) : placeF (es ++ [e]) = putF (placeF es) e := by simp [placeF, List.foldl_append]
theorem mostF_snoc (es : List (ByteArray × Nat)) (e : ByteArray × Nat) : mostF (es ++ [e]) = moreM (mostF es) e := by simp [mostF, List.foldl_append]
theorem mem_of_foldr_rev {α : Type} {p : List α → Prop} (h0 : p []) (h1 : ∀ l a, p l → p (l ++ [a])) (l : List α) : p l := by
  have : ∀ l : List α, p l.reverse := by
    intro l
    induction l with
    | nil => exact h0
    | cons a l ih => rw [List.reverse_cons]; exact h1 _ _ ih
  have h := this l.reverse
  rwa [List.reverse_reverse] at h
/-- A text has a place just where it is a letter. -/
theorem placeF_isSome (es : List (ByteArray × Nat)) (t : ByteArray) : (placeF es t).isSome = true ↔ t ∈ es.map Prod.fst := by
  induction es using mem_of_foldr_rev with
  | h0 => simp [placeF]
  | h1 es e ih =>
    rw [placeF_snoc, putF]
    by_cases h : t = e.1
    · rw [if_pos h]; simp [h]
    · rw [if_neg h, ih]; simp [h]
theorem placeF_mem {es : List (ByteArray × Nat)} {t : ByteArray} {i : Int} (h : placeF es t = some i) : ∃ e ∈ es, e.1 = t ∧ (e.2 : Int) = i := by
  induction es using mem_of_foldr_rev with
  | h0 => cases h
  | h1 es e ih =>
    rw [placeF_snoc, putF] at h
    by_cases he : t = e.1
    · rw [if_pos he] at h; injection h with h; exact ⟨e, by simp, he.symm, h⟩
    · rw [if_neg he] at h; obtain ⟨e', h1, h2⟩ := ih h; exact ⟨e', by simp [h1], h2⟩
theorem mostF_nonneg (es : List (ByteArray × Nat)) (b : UInt8) : 0 ≤ mostF es b := by
  induction es using mem_of_foldr_rev with
  | h0 => simp [mostF]
  | h1 es e ih => rw [mostF_snoc, moreM]; split <;> omega
theorem mostF_le (es : List (ByteArray × Nat)) (b : UInt8) (h : ∀ e ∈ es, e.1.size ≤ 8) : mostF es b ≤ 8 := by
  induction es using mem_of_foldr_rev with
  | h0 => simp [mostF]
  | h1 es e ih =>
    have := ih (fun e he => h e (by simp [he]))
    have := h e (by simp)
    rw [mostF_snoc, moreM]; split <;> omega
theorem mostF_ge {es : List (ByteArray × Nat)} {e : ByteArray × Nat} (h : e ∈ es) : (e.1.size : Int) ≤ mostF es (firstB e.1) := by
  induction es using mem_of_foldr_rev with
  | h0 => cases h
  | h1 es e' ih =>
    rw [mostF_snoc, moreM]
    rw [List.mem_append, List.mem_singleton] at h
    rcases h with h | rfl
    · have := ih h; split <;> omega
    · rw [if_pos rfl]; omega

theorem mem_ents {gs : List (List ByteArray)} {e : ByteArray × Nat} : e ∈ ents gs ↔ ∃ l, gs[e.2]? = some l ∧ e.1 ∈ l := by
  have : ∀ (gs : List (List ByteArray)) (k : Nat), e ∈ entsFrom k gs ↔ ∃ j l, e.2 = k + j ∧ gs[j]? = some l ∧ e.1 ∈ l := by
    intro gs
    induction gs with
    | nil => intro k; simp [entsFrom]
    | cons g gs ih =>
      intro k
      simp only [entsFrom, List.mem_append, List.mem_map, ih (k + 1)]
      constructor
      · rintro (⟨x, hx, rfl⟩ | ⟨j, l, h1, h2, h3⟩)
        · exact ⟨0, g, rfl, rfl, hx⟩
        · exact ⟨j + 1, l, by omega, h2, h3⟩
      · rintro ⟨j, l, h1, h2, h3⟩
        cases j with
        | zero =>
          simp only [List.getElem?_cons_zero, Option.some.injEq] at h2; subst h2
          exact .inl ⟨e.1, h3, by rw [show k = e.2 by omega]⟩
        | succ j => exact .inr ⟨j, l, by omega, h2, h3⟩
  rw [ents, this]
  constructor
  · rintro ⟨j, l, h1, h2, h3⟩; exact ⟨l, by rw [h1, Nat.zero_add]; exact h2, h3⟩
  · rintro ⟨l, h1, h2⟩; exact ⟨e.2, l, by omega, h1, h2⟩
theorem ents_fst (gs : List (List ByteArray)) : (ents gs).map (·.1) = gs.flatten := by
  have : ∀ (gs : List (List ByteArray)) (k : Nat), (entsFrom k gs).map (·.1) = gs.flatten := by
    intro gs
    induction gs with
    | nil => intro k; rfl
    | cons g gs ih => intro k; simp only [entsFrom, List.map_append, ih, List.flatten_cons, List.map_map]; rw [show (fun x : ByteArray × Nat => x.1) ∘ (fun x : ByteArray => (x, k)) = id from rfl, List.map_id]
  exact this gs 0
theorem nodup_snd {es : List (ByteArray × Nat)} (h : (es.map (·.1)).Nodup) {a b : ByteArray × Nat} (ha : a ∈ es) (hb : b ∈ es) (e : a.1 = b.1) : a = b := by
  induction es with
  | nil => cases ha
  | cons x es ih =>
    rw [List.map_cons, List.nodup_cons] at h
    rcases List.mem_cons.1 ha with h1 | h1
    · rcases List.mem_cons.1 hb with h2 | h2
      · rw [h1, h2]
      · exact absurd (List.mem_map.2 ⟨b, h2, by rw [← e, h1]⟩) h.1
    · rcases List.mem_cons.1 hb with h2 | h2
      · exact absurd (List.mem_map.2 ⟨a, h1, by rw [e, h2]⟩) h.1
      · exact ih h.2 h1 h2
/-- An alphabet as New lets it by. -/
structure GoodG (gs : List (List ByteArray)) : Prop where
  nodup : gs.flatten.Nodup
  letters : ∀ x ∈ gs.flatten, letterB (bl x) = true
theorem GoodG.size {gs : List (List ByteArray)} (h : GoodG gs) {e : ByteArray × Nat} (he : e ∈ ents gs) : 1 ≤ e.1.size ∧ e.1.size ≤ 8 := by
  have hm : e.1 ∈ gs.flatten := by rw [← ents_fst]; exact List.mem_map_of_mem he
  have hl := h.letters _ hm
  unfold letterB at hl
  simp only [Bool.and_eq_true, decide_eq_true_eq, bl_len] at hl
  exact hl.1
/-- What 'better' keeps: the best one so far is the longest. -/
theorem longest_max (gs : List (List ByteArray)) (s : ByteArray) : ∀ e ∈ ents gs, bl e.1 <+: bl s → e.1.size ≤ (longest gs s).1.size := by
  unfold longest
  have mono : ∀ (l : List (ByteArray × Nat)) (b : ByteArray × Int), b.1.size ≤ (l.foldl (better39 s) b).1.size := by
    intro l
    induction l with
    | nil => intro b; exact Nat.le_refl _
    | cons a l ih =>
      intro b
      rw [List.foldl_cons]
      refine Nat.le_trans ?_ (ih _)
      unfold better39; split
      · rename_i h; exact Nat.le_of_lt h.1
      · exact Nat.le_refl _
  have : ∀ (l : List (ByteArray × Nat)) (b : ByteArray × Int), ∀ e ∈ l, bl e.1 <+: bl s → e.1.size ≤ (l.foldl (better39 s) b).1.size := by
    intro l
    induction l with
    | nil => intro b e he; cases he
    | cons a l ih =>
      intro b e he hp
      rw [List.foldl_cons]
      rcases List.mem_cons.1 he with rfl | he
      · refine Nat.le_trans ?_ (mono l _)
        unfold better39; split
        · exact Nat.le_refl _
        · rename_i h; exact Nat.le_of_not_lt (fun hlt => h ⟨hlt, hp⟩)
      · exact ih _ e he hp
  exact this _ _
def takeB (s : ByteArray) (n : Nat) : ByteArray := s.extract 0 n
theorem takeB_bl (s : ByteArray) (n : Nat) : bl (takeB s n) = (bl s).take n := by rw [takeB, extract_mkB, bl_mkB, List.drop_zero]
theorem takeB_size (s : ByteArray) (n : Nat) (h : n ≤ s.size) : (takeB s n).size = n := by rw [← bl_len, takeB_bl, List.length_take, bl_len, Nat.min_eq_left h]
theorem takeB_prefix (s : ByteArray) (n : Nat) : bl (takeB s n) <+: bl s := by rw [takeB_bl]; exact List.take_prefix _ _
theorem prefix_takeB {x s : ByteArray} (h : bl x <+: bl s) : x = takeB s x.size := bl_inj (by rw [takeB_bl, ← bl_len]; exact List.prefix_iff_eq_take.1 h)
/-- Nothing longer than n is a letter with which s begins. -/
def NoneAbove (gs : List (List ByteArray)) (s : ByteArray) (n : Nat) : Prop := ∀ m, n < m → m ≤ s.size → placeF (ents gs) (takeB s m) = none
theorem noneAbove_start {gs : List (List ByteArray)} {s : ByteArray} (n : Nat) (hn : (n : Int) = min (s.size : Int) (mostF (ents gs) (firstB s))) : NoneAbove gs s n := by
  intro m hm hms
  cases h : placeF (ents gs) (takeB s m) with
  | none => rfl
  | some i =>
    obtain ⟨e, he, h1, _⟩ := placeF_mem h
    have hsz := takeB_size s m hms
    have hge := mostF_ge he
    have hf : firstB e.1 = firstB s := by
      unfold firstB
      rw [h1, takeB_bl]
      cases hb : bl s with
      | nil => have := bl_len s; rw [hb] at this; simp at this; omega
      | cons c t =>
        cases m with
        | zero => omega
        | succ m => simp
    rw [hf, h1, hsz] at hge
    omega
theorem noneAbove_down {gs : List (List ByteArray)} {s : ByteArray} {n : Nat} (h : NoneAbove gs s (n + 1)) (h1 : placeF (ents gs) (takeB s (n + 1)) = none) : NoneAbove gs s n := by
  intro m hm hms
  by_cases e : m = n + 1
  · subst e; exact h1
  · exact h m (by omega) hms
theorem longest_found {gs : List (List ByteArray)} (hG : GoodG gs) {s : ByteArray} {n : Nat} (hn : n ≤ s.size) (h : NoneAbove gs s n) {i : Int} (hi : placeF (ents gs) (takeB s n) = some i) : longest gs s = (takeB s n, i) := by
  obtain ⟨e, he, h1, h2⟩ := placeF_mem hi
  have hp : bl e.1 <+: bl s := by rw [h1]; exact takeB_prefix s n
  have hsz : e.1.size = n := by rw [h1, takeB_size s n hn]
  have hpos := (hG.size he).1
  have hmax := longest_max gs s e he hp
  rcases longest_sound gs s with h' | ⟨e', he', h', h3, h4⟩
  · rw [h'] at hmax; have : (ByteArray.empty).size = 0 := rfl
    simp only [this] at hmax; omega
  · rw [h'] at hmax ⊢
    have hs' : e'.1.size = n := by
      rcases Nat.lt_or_ge n e'.1.size with hlt | hge
      · have hle : e'.1.size ≤ s.size := by have := h4.length_le; rwa [bl_len, bl_len] at this
        have := h _ hlt hle
        rw [← prefix_takeB h4] at this
        have hsome := (placeF_isSome (ents gs) e'.1).2 (List.mem_map_of_mem he')
        rw [this] at hsome; cases hsome
      · simp only at hmax; omega
    have e1 : e'.1 = takeB s n := by rw [prefix_takeB h4, hs']
    have := nodup_snd (by rw [ents_fst]; exact hG.nodup) he he' (by rw [h1, e1])
    subst this
    rw [h1, h2]
theorem longest_missed {gs : List (List ByteArray)} {s : ByteArray} (h : NoneAbove gs s 0) : longest gs s = (ByteArray.empty, -1) := by
  rcases longest_sound gs s with h' | ⟨e', he', h', h3, h4⟩
  · exact h'
  · have hle : e'.1.size ≤ s.size := by have := h4.length_le; rwa [bl_len, bl_len] at this
    have := h _ h3 hle
    rw [← prefix_takeB h4] at this
    have hsome := (placeF_isSome (ents gs) e'.1).2 (List.mem_map_of_mem he')
    rw [this] at hsome; cases hsome
theorem placeF_empty {gs : List (List ByteArray)} (hG : GoodG gs) (s : ByteArray) : placeF (ents gs) (takeB s 0) = none := by
  cases h : placeF (ents gs) (takeB s 0) with
  | none => rfl
  | some i =>
    obtain ⟨e, he, h1, _⟩ := placeF_mem h
    have := (hG.size he).1
    rw [h1, takeB_size s 0 (by omega)] at this; omega
end Go.Proofs.YtgkpoopiamicnaaGreatDoor
namespace Go.Proofs.YtgkpoopiamicnaaGreatDoor
open Go.RowKit Go.Maps Go.WideMaps

theorem keyS_ : Keyed Tryz.prog 9 := string_keyed Tryz.underlying9
def MapSI (w : World) (b n : Nat) (f : ByteArray → Option Int) : Prop :=
  ∃ D : DataW Unit, w.ownsMap Tryz.prog 9 (plainElem Tryz.prog 3) b n D ∧ IsMap D ∧
    ∀ s : ByteArray, has D (.string s.data.toList) = (f s).isSome ∧ ∀ v, f s = some v → D.atKey (.string s.data.toList) (.lit (.int .i64 0)) = .lit (.int .i64 v)
theorem MapSI.lt {w : World} {b n : Nat} {f : ByteArray → Option Int} (h : MapSI w b n f) : b < w.heap.size := by
  obtain ⟨D, h1, _⟩ := h; exact h1.lt
theorem MapSI.made (w : World) : MapSI (w.alloc (.map #[] 0)) w.heap.size 0 (fun _ => none) :=
  ⟨.map [], World.ownsMap_made w _ _ _, isMap_empty, fun s => ⟨rfl, fun v h => by cases h⟩⟩
theorem MapSI.kept {w w' : World} {b n : Nat} {f : ByteArray → Option Int} {row : Option Nat} (h : MapSI w b n f) (hg : w.grownBy w' row) (hne : some b ≠ row) : MapSI w' b n f := by
  obtain ⟨D, h1, h2⟩ := h; exact ⟨D, h1.kept hg hne, h2⟩
theorem MapSI.below {w w' : World} {b n : Nat} {f : ByteArray → Option Int} (h : MapSI w b n f) (hb : Below w.heap.size w w') : MapSI w' b n f :=
  h.kept (row := none) ⟨hb.os, hb.tape, hb.output, hb.size, fun i hi _ => hb.block i hi⟩ (by simp)
theorem MapSI.isMap {w : World} {b n : Nat} {f : ByteArray → Option Int} (h : MapSI w b n f) : ∃ es clock, w.heap[b]? = some (.map es clock) := by
  obtain ⟨D, ⟨es, clock, hb, _⟩, _⟩ := h; exact ⟨es, clock, hb⟩
theorem key_string {s : ByteArray} (hs : s.size ≤ maxLen) : keyOf Tryz.prog 9 (.string s) = some (.string s.data.toList) := keyOf_string_mk Tryz.underlying9 hs
theorem zero_int (w : World) : (zeroValue 3).run Tryz.prog w = .ok (.int .i64 0) w := by kernel_rfl
/-- 'v, ok := m[s]'. -/
theorem MapSI.look {w : World} {b n : Nat} {f : ByteArray → Option Int} (h : MapSI w b n f) (s : ByteArray) (hs : s.size ≤ maxLen) :
    (Instr.lookup 70 (.map (some b)) (.string s) true).run Tryz.prog w = .ok (.tuple #[.int .i64 ((f s).getD 0), .bool (f s).isSome]) w := by
  obtain ⟨D, h1, h2, h3⟩ := h
  obtain ⟨v, ps, hrun, hv⟩ := h1.look_ok keyS_ Tryz.underlying70 (zero_int w) (plainElem_int (H := Unit) (a := 0) Tryz.underlying3 (by decide)) (key_string hs)
  obtain ⟨c, rfl, hc, _⟩ := plainElem_int_inv Tryz.underlying3 hv
  simp only [Prod.mk.injEq] at hc
  rw [hrun, (h3 s).1]
  cases hf : f s with
  | none =>
    have hh : has D (.string s.data.toList) = false := by rw [(h3 s).1, hf]; rfl
    rw [atKey_of_not_has hh] at hc
    have : c = 0 := (Lit.int.inj (DataW.lit.inj hc.1)).2.symm
    subst this; simp only [Option.isSome_none, Option.getD_none]
  | some x =>
    rw [(h3 s).2 x hf] at hc
    have : c = x := (Lit.int.inj (DataW.lit.inj hc.1)).2.symm
    subst this; simp only [Option.isSome_some, Option.getD_some]
/-- 'm[s] = v'. -/
theorem wpList_putSI {w : World} {ops : Array Oper} {rest : List Oper} {o : Oper} {a : Act} {Q : Exit → Act → World → Prop}
    (hg : o.guard = none) (m x v : Operand) (hop : o.op = Op.mapUpdate 70 m x v) (b n : Nat) (f : ByteArray → Option Int) (hm : a.eval m = .map (some b)) (h : MapSI w b n f) (hn : n < maxLen)
    (s : ByteArray) (hs : s.size ≤ maxLen) (i : Int) (hi : (Lit.int .i64 i).wf = true) (hx : a.eval x = .string s) (hv : a.eval v = .int .i64 i)
    (hK : ∀ w', MapSI w' b (n + 1) (fun t => if t = s then some i else f t) → w.grownBy w' (some b) → wpList Tryz.prog ops Q rest (a.put o.dst undef) w') :
    wpList Tryz.prog ops Q (o :: rest) a w := by
  obtain ⟨D, h1, h2, h3⟩ := h
  refine wpList_mapUpdate_own w hg m x v 70 hop 9 3 keyS_ Tryz.underlying70 _ b n D hm h1 hn (.string s) (.int .i64 i) (.string s.data.toList) hx hv (key_string hs) (.lit (.int .i64 i)) [] (plainElem_int Tryz.underlying3 hi) ?_
  intro w1 hown hgrow
  refine hK w1 ⟨_, hown, h2.put _ _, fun t => ?_⟩ hgrow
  have hlit : WideAt.IsKeyLit (.string s.data.toList) := by first | trivial | rfl | (unfold WideAt.IsKeyLit; trivial)
  by_cases e : t = s
  · subst e
    simp only [↓reduceIte]
    exact ⟨has_put_same h2 hlit _, fun v hv => by injection hv with hv; subst hv; exact atKey_put_same h2 hlit _ _⟩
  · simp only [if_neg e]
    have hne : (Lit.string t.data.toList) ≠ .string s.data.toList := fun h => e (by
      injection h with h
      obtain ⟨⟨l⟩⟩ := t; obtain ⟨⟨l'⟩⟩ := s
      simp only at h; rw [h])
    rw [has_put_other hne, atKey_put_other hne]
    exact h3 t
end Go.Proofs.YtgkpoopiamicnaaGreatDoor
namespace Go.Proofs.YtgkpoopiamicnaaGreatDoor
open Go.RowKit Go.Shelf

/-- The library's variable MaxLen holds some int. -/
def MaxOk (w : World) : Prop := ∃ m : Int, w.cell? ⟨0, 0, none⟩ = some (.int .i64 m)
theorem MaxOk.below {w w' : World} (h : MaxOk w) (hb : Below w.heap.size w w') : MaxOk w' := by
  obtain ⟨m, hm⟩ := h
  exact ⟨m, (hb.cell (p := ⟨0, 0, none⟩) (lt_of_cell hm)).trans hm⟩
theorem count_any (s : ByteArray) (w : World) :
    Calls Tryz.prog 43 #[.string s, .string ⟨#[32]⟩] w fun e w' => e = .returned (.int .i64 ((bl s).count 32 : Nat)) ∧ w = w' :=
  (Tryz.strings_Count_one s 32 w).mono fun _ _ ⟨h1, h2⟩ => ⟨h1, h2.symm⟩
theorem split_any39 (s : ByteArray) (w : World) (hm : MaxOk w) (hs : s.size ≤ 16384) :
    Calls Tryz.prog 44 #[.string s, .string ⟨#[32]⟩] w (GivesS w (piecesB s)) := by
  obtain ⟨m, hm⟩ := hm
  refine (Tryz.strings_Split s ⟨#[32]⟩ m w (by omega) hm (by decide)).mono ?_
  rintro e w' ⟨rfl, rfl⟩
  have h1 : Lib.splitB ⟨#[32]⟩ 0 (Lib.countB s ⟨#[32]⟩) s = piecesB s := splitB_space s
  have h2 : Lib.countB s ⟨#[32]⟩ + 1 = (piecesB s).length := countB_space s
  have h3 := piecesB_le s
  rw [h1, h2]
  refine ⟨_, rfl, ?_, (Below.refl _ _).alloc (Nat.le_refl _) _⟩
  exact ⟨by simp, .inr ⟨w.heap.size, (piecesB s).length, ((piecesB s).map Value.string).toArray, rfl, Nat.le_refl _, heap_alloc_new w _, Nat.le_refl _, by unfold maxLen; omega, by simp, by rw [Nat.mul_one, List.toList_toArray]; exact List.take_of_length_le (by simp)⟩⟩
theorem low_any (x : Nat) (W : World) : Calls Tryz.prog 46 #[.int .i32 x] W fun e w' => e = .returned (.bool (lowR x)) ∧ ∃ q, w' = W.drewN q := by
  go_enter Tryz.func46, Tryz.ntmps46
  go_wp2
  go_ret
  refine ⟨?_, 0, rfl⟩
  have : lowR x = decide ((x : Int) ≤ 32) := by unfold lowR; rw [decide_eq_decide]; omega
  rw [this]; rfl
theorem contains_any (s : ByteArray) (w : World) :
    Calls Tryz.prog 45 #[.string s, .func (.func 46) #[] #[]] w fun e w' => e = .returned (.bool (!((bl s).all fun c => decide (32 < c.toNat)))) ∧ Below w.heap.size w w' := by
  have h := Tryz.strings_ContainsFunc 46 #[] (enters_of Tryz.func46 (by kernel_rfl) rfl) lowR s w (fun W x _ => low_any x W)
  rw [low_iff] at h
  exact h
end Go.Proofs.YtgkpoopiamicnaaGreatDoor
