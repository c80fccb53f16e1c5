/-
  A row of rows that the call made ('OwnM'): how it is kept, read and appended to. Conditions: none.
-/
import Derived.Test.YtgkpoopiamicnaaDoorZaaa
import Derived.Test.YtgkpoopiamicnaaDoorProg
import Derived.BigQuiet
import Derived.Deep.QuietTactic
import Derived.Lib.SplitLaws
import Derived.Shelf.GgClosure.StringsIndexFunc
import Derived.Maps.Own
import Derived.Maps.OwnSet
import Derived.Maps.OwnOps
import Derived.Test.YtgkpoopiamicnaaDoorShelf
import Derived.Shelf.Abstract
namespace Go.Proofs.YtgkpoopiamicnaaDoor
open Go.RowKit

theorem grown_of_below {w w' : World} (h : Below w.heap.size w w') (row : Option Nat) : w.grownBy w' row := ⟨h.os, h.tape, h.output, h.size, fun i hi _ => h.block i hi⟩
theorem own_below {w w' : World} {base : Nat} {e : TypeId} {size n : Nat} {v : Value} {xs : List Value} (h : w.ownsRow base e size v n xs) (hb : Below w.heap.size w w') : w'.ownsRow base e size v n xs :=
  h.kept (grown_of_below hb none) (by
    rcases h.2 with ⟨rfl, _⟩ | ⟨g, cap, cur, rfl, _⟩
    · exact .inl rfl
    · exact .inr (by simp [Value.ownBlock]))
theorem own_blocks {w w' : World} {base : Nat} {e : TypeId} {size n : Nat} {v : Value} {xs : List Value} (h : w.ownsRow base e size v n xs) (hb : ∀ b, base ≤ b → b < w.heap.size → w'.heap[b]? = w.heap[b]?) : w'.ownsRow base e size v n xs := by
  obtain ⟨h1, h2 | ⟨g, cap, cur, h3, h4, h5, h6⟩⟩ := h
  · exact ⟨h1, .inl h2⟩
  · exact ⟨h1, .inr ⟨g, cap, cur, h3, h4, (hb g h4 (Array.getElem?_eq_some_iff.1 h5).1).trans h5, h6⟩⟩
/-- Two rows whose element types differ never share a block. -/
theorem own_own_ne {w : World} {b b' : Nat} {e e' : TypeId} {s s' n n' : Nat} {v v' : Value} {xs xs' : List Value} (h : w.ownsRow b e s v n xs) (h' : w.ownsRow b' e' s' v' n' xs') (hne : e ≠ e') : v.ownBlock = none ∨ v.ownBlock ≠ v'.ownBlock := by
  rcases h.2 with ⟨rfl, _⟩ | ⟨g, cap, cur, rfl, _, hh, _⟩
  · exact .inl rfl
  · refine .inr ?_
    rcases h'.2 with ⟨rfl, _⟩ | ⟨g', cap', cur', rfl, _, hh', _⟩
    · simp [Value.ownBlock]
    · intro he
      have : g = g' := by simpa [Value.ownBlock] using he
      subst this
      rw [hh] at hh'; injection hh' with hh'; injection hh' with _ ht
      exact hne ht
theorem own_mono {w : World} {b b' : Nat} {e : TypeId} {s n : Nat} {v : Value} {xs : List Value} (h : w.ownsRow b e s v n xs) (hb : b' ≤ b) : w.ownsRow b' e s v n xs := by
  obtain ⟨h1, h2 | ⟨g, cap, cur, h3, h4, h5⟩⟩ := h
  · exact ⟨h1, .inl h2⟩
  · exact ⟨h1, .inr ⟨g, cap, cur, h3, Nat.le_trans hb h4, h5⟩⟩

theorem grown_setCell (w : World) (p : Addr) (u : Value) : w.grownBy (w.setCell p u) (some p.block) :=
  ⟨rfl, rfl, rfl, by simp [World.setCell], fun k _ hne => Below.heap_setCell _ _ _ _ (fun e => hne (by rw [e]))⟩
/-- A row (elements of type e1) of rows (elements of type e0). -/
def OwnM (w : World) (base : Nat) (e1 e0 : TypeId) (v : Value) (gs : List (List Value)) : Prop :=
  ∃ vs : List Value, w.ownsRow base e1 1 v gs.length vs ∧ vs.length = gs.length ∧ ∀ (k : Nat) (hk : k < gs.length), ∃ u, vs[k]? = some u ∧ w.ownsRow base e0 1 u gs[k].length gs[k]

section
variable {w w' : World} {base : Nat} {e1 e0 : TypeId} {v : Value} {gs : List (List Value)}
theorem OwnM.nil_ (w : World) (base : Nat) (e1 e0 : TypeId) : OwnM w base e1 e0 (.slice none 0 0) [] := ⟨[], World.ownsRow_nil _ _ _ _, rfl, fun k hk => absurd hk (by simp)⟩
theorem OwnM.below (h : OwnM w base e1 e0 v gs) (hb : Below w.heap.size w w') : OwnM w' base e1 e0 v gs := by
  obtain ⟨vs, h1, h2, h3⟩ := h
  refine ⟨vs, own_below h1 hb, h2, fun k hk => ?_⟩
  obtain ⟨u, hu, ho⟩ := h3 k hk
  exact ⟨u, hu, own_below ho hb⟩
theorem OwnM.alloc (h : OwnM w base e1 e0 v gs) (o : Obj) : OwnM (w.alloc o) base e1 e0 v gs := h.below ((Below.refl _ _).alloc (Nat.le_refl _) o)
theorem OwnM.mono {b' : Nat} (h : OwnM w base e1 e0 v gs) (hb : b' ≤ base) : OwnM w b' e1 e0 v gs := by
  obtain ⟨vs, h1, h2, h3⟩ := h
  refine ⟨vs, own_mono h1 hb, h2, fun k hk => ?_⟩
  obtain ⟨u, hu, ho⟩ := h3 k hk
  exact ⟨u, hu, own_mono ho hb⟩
/-- A write to a block of another element type. -/
theorem OwnM.other {r : Nat} {cs : Array Value} {t : TypeId} (h : OwnM w base e1 e0 v gs) (hg : w.grownBy w' (some r)) (hr : Blk w r t cs) (h1 : e1 ≠ t) (h0 : e0 ≠ t) : OwnM w' base e1 e0 v gs := by
  obtain ⟨vs, h1', h2, h3⟩ := h
  refine ⟨vs, h1'.kept hg (.inr (own_blk_ne h1' hr h1)), h2, fun k hk => ?_⟩
  obtain ⟨u, hu, ho⟩ := h3 k hk
  exact ⟨u, hu, ho.kept hg (.inr (own_blk_ne ho hr h0))⟩
/-- A write below the base. -/
theorem OwnM.low {row : Option Nat} (h : OwnM w base e1 e0 v gs) (hg : w.grownBy w' row) (hr : ∀ r, row = some r → r < base) : OwnM w' base e1 e0 v gs := by
  obtain ⟨vs, h1', h2, h3⟩ := h
  have ne : ∀ {u : Value} {e n xs}, w.ownsRow base e 1 u n xs → u.ownBlock = none ∨ u.ownBlock ≠ row := fun {u e n xs} hu => by
    cases hb : u.ownBlock with
    | none => exact .inl rfl
    | some k => exact .inr (fun e => by have := hr k e.symm; have := (hu.lt k hb).1; omega)
  refine ⟨vs, h1'.kept hg (ne h1'), h2, fun k hk => ?_⟩
  obtain ⟨u, hu, ho⟩ := h3 k hk
  exact ⟨u, hu, ho.kept hg (ne ho)⟩
/-- Behind an append of one row. -/
theorem OwnM.push {u v' : Value} {xs : List Value} (h : OwnM w base e1 e0 v gs) (hne : e0 ≠ e1) (hu : w.ownsRow base e0 1 u xs.length xs)
    {n : Nat} {vs : List Value} (hv : w.ownsRow base e1 1 v n vs) (hg : w.grownBy w' v.ownBlock) (hown : w'.ownsRow base e1 1 v' (n + 1) (vs ++ [u])) : OwnM w' base e1 e0 v' (gs ++ [xs]) := by
  obtain ⟨vs0, h1, h2, h3⟩ := h
  obtain ⟨rfl, rfl⟩ : n = gs.length ∧ vs = vs0 := by
    have a := h1.1; have b := hv.1
    rcases h1.2 with ⟨e, hz⟩ | ⟨g, cap, cur, e, _, hh, _, _, _, ht⟩
    · subst e
      rcases hv.2 with ⟨_, hz'⟩ | ⟨g', cap', cur', e', _⟩
      · subst hz'; rw [hz] at a ⊢; simp at a b; exact ⟨rfl, by rw [a, b]⟩
      · cases e'
    · subst e
      rcases hv.2 with ⟨e', _⟩ | ⟨g', cap', cur', e', _, hh', _, _, _, ht'⟩
      · cases e'
      · injection e' with e1' e2' e3'
        injection e1' with e1'
        injection e1' with e1'
        subst e1'
        rw [hh] at hh'; injection hh' with hh'; injection hh' with hh'
        subst hh' 
        rw [← e2'] at ht' ⊢
        exact ⟨rfl, by rw [← ht, ← ht']⟩
  refine ⟨vs ++ [u], by simpa using hown, by simp [h2], fun k hk => ?_⟩
  by_cases hlt : k < gs.length
  · obtain ⟨u', hu', ho⟩ := h3 k hlt
    refine ⟨u', by rw [List.getElem?_append_left (by omega)]; exact hu', ?_⟩
    rw [List.getElem_append_left hlt]
    exact ho.kept hg (own_own_ne ho hv hne)
  · simp at hk
    obtain rfl : k = gs.length := by omega
    refine ⟨u, by rw [← h2]; simp, ?_⟩
    rw [List.getElem_append_right (by omega)]
    simp only [Nat.sub_self, List.getElem_cons_zero]
    exact hu.kept hg (own_own_ne hu hv hne)
/-- What a reader of one row meets. -/
theorem OwnM.at_ (h : OwnM w base e1 e0 v gs) {k : Nat} (hk : k < gs.length) :
    ∃ (g c : Nat) (u : Value), v = .slice (some ⟨g, 0, none⟩) gs.length c ∧ w.cell? ⟨g, k, none⟩ = some u ∧ w.ownsRow base e0 1 u gs[k].length gs[k] := by
  obtain ⟨vs, h1, h2, h3⟩ := h
  obtain ⟨u, hu, ho⟩ := h3 k hk
  obtain ⟨g, c, hv, _, _⟩ := h1.form (by omega)
  subst hv
  exact ⟨g, c, u, rfl, by rw [h1.cellAt k (by omega)]; exact hu, ho⟩
theorem OwnM.form (h : OwnM w base e1 e0 v gs) : ∃ A c, v = .slice A gs.length c ∧ gs.length ≤ c ∧ c ≤ maxLen := by
  obtain ⟨vs, h1, _⟩ := h
  exact ownsRow_form h1
end
end Go.Proofs.YtgkpoopiamicnaaDoor
namespace Go.Proofs.YtgkpoopiamicnaaDoor
open Go.RowKit

abbrev strM (gs : List (List ByteArray)) : List (List Value) := gs.map (·.map Value.string)
theorem flatten_take_succ {gs : List (List ByteArray)} {k : Nat} (hk : k < gs.length) : (gs.take (k + 1)).flatten = (gs.take k).flatten ++ gs[k] := by
  rw [List.take_succ_eq_append_getElem hk, List.flatten_append]; simp
theorem flatten_take_le (gs : List (List ByteArray)) (k : Nat) : (gs.take k).flatten.length ≤ gs.flatten.length := by
  conv => rhs; rw [← List.take_append_drop k gs, List.flatten_append, List.length_append]
  omega

end Go.Proofs.YtgkpoopiamicnaaDoor
namespace Go.Proofs.YtgkpoopiamicnaaDoor
open Go.RowKit

def totalS (ss : List ByteArray) : Nat := (ss.map ByteArray.size).sum
def fewB (ss : List ByteArray) (most bytes : Int) : Bool := decide ((ss.length : Int) ≤ most) && decide ((totalS ss : Int) ≤ bytes)

theorem wrap_add (a b : Int) : wrap64 (wrap64 a + b) = wrap64 (a + b) := by unfold wrap64; omega
theorem totalS_succ (ss : List ByteArray) (k : Nat) (hk : k < ss.length) : totalS (ss.take (k + 1)) = totalS (ss.take k) + ss[k].size := by
  unfold totalS
  rw [List.take_succ_eq_append_getElem hk, List.map_append, List.sum_append]; simp
theorem totalS_le (ss : List ByteArray) (hs : ∀ s ∈ ss, okS s) : totalS ss ≤ ss.length * 140737488351232 := by
  unfold totalS
  induction ss with
  | nil => simp
  | cons a l ih =>
    have h1 := hs a (by simp)
    have h2 := ih (fun s h => hs s (by simp [h]))
    unfold okS at h1
    simp only [List.map_cons, List.sum_cons, List.length_cons, Nat.add_mul]
    omega
theorem fewB_long {ss : List ByteArray} {most bytes : Int} (h : most < ss.length) : fewB ss most bytes = false := by
  unfold fewB; rw [decide_eq_false (by omega)]; rfl
theorem fewB_short {ss : List ByteArray} {most bytes : Int} (h : (ss.length : Int) ≤ most) : fewB ss most bytes = decide ((totalS ss : Int) ≤ bytes) := by
  unfold fewB; rw [decide_eq_true h]; rfl

end Go.Proofs.YtgkpoopiamicnaaDoor
namespace Go.Proofs.YtgkpoopiamicnaaDoor
open Go.RowKit

def groupsB (ss : List ByteArray) : List (List ByteArray) := ss.map piecesB
def totalP (ss : List ByteArray) : Nat := (groupsB ss).flatten.length
def dupB (l : List ByteArray) : Bool := decide (¬ l.Nodup)
def newErr (ss : List ByteArray) : Int :=
  if 256 < totalP ss then 12
  else if (groupsB ss).flatten.all (fun x => letterB (bl x)) = false then 15
  else if dupB (groupsB ss).flatten then 6 else 0
theorem totalP_succ (ss : List ByteArray) (k : Nat) (hk : k < ss.length) : totalP (ss.take (k + 1)) = totalP (ss.take k) + (piecesB ss[k]).length := by
  unfold totalP groupsB
  rw [List.take_succ_eq_append_getElem hk, List.map_append, List.flatten_append]; simp
theorem totalP_le (ss : List ByteArray) : totalP ss ≤ totalS ss + ss.length := by
  unfold totalP totalS groupsB
  induction ss with
  | nil => simp
  | cons a l ih =>
    have := piecesB_le a
    simp only [List.map_cons, List.flatten_cons, List.length_append, List.sum_cons, List.length_cons] at ih ⊢
    omega
theorem totalS_take (ss : List ByteArray) (k : Nat) : totalS (ss.take k) ≤ totalS ss := by
  unfold totalS
  conv => rhs; rw [← List.take_append_drop k ss, List.map_append, List.sum_append]
  omega
theorem totalS_mem {ss : List ByteArray} {s : ByteArray} (h : s ∈ ss) : s.size ≤ totalS ss := le_sum_of_mem' (List.mem_map_of_mem h)

end Go.Proofs.YtgkpoopiamicnaaDoor
namespace Go.Proofs.YtgkpoopiamicnaaDoor
open Go.RowKit

theorem lt_of_cell {w : World} {a : Addr} {v : Value} (h : w.cell? a = some v) : a.block < w.heap.size := by
  rcases Nat.lt_or_ge a.block w.heap.size with h' | h'
  · exact h'
  · rw [World.cell?, Array.getElem?_eq_none h'] at h; cases h

/-- An alphabet of a size that the statements speak of. -/
def SmallG (gs : List (List ByteArray)) : Prop := gs.length ≤ 20000 ∧ (∀ l ∈ gs, l.length ≤ 20000) ∧ ∀ l ∈ gs, ∀ x ∈ l, x.size ≤ 20000
theorem info_int : (Tryd.prog.info? 3).map (fun i => (i.zero, i.size, i.bytes)) = some (some (.int .i64 0), 1, 8) := by kernel_rfl
abbrev strs (l : List ByteArray) : List Value := l.map Value.string
abbrev ints (l : List Int) : List Value := l.map (Value.int .i64)
def ReadPost39 (w : World) (r : Int × List (ByteArray × Int)) (e : Ending) (w' : World) : Prop :=
  ∃ v1 v2, e = .returned (.tuple #[v1, v2, .int .i64 r.1]) ∧ w'.ownsRow w.heap.size 9 1 v1 r.2.length (strs (letS r.2)) ∧ w'.ownsRow w.heap.size 3 1 v2 r.2.length (ints (keyS r.2)) ∧ Below w.heap.size w w'

end Go.Proofs.YtgkpoopiamicnaaDoor
namespace Go.Proofs.YtgkpoopiamicnaaDoor
open Go.RowKit

def spaceB : ByteArray := ⟨#[32]⟩
theorem split_space : ∀ (k : Nat) (l : Bs), l.count 32 = k → Lib.splitK [32] 0 k l = piecesL l := by
  intro k
  induction k with
  | zero =>
    intro l h
    rw [Lib.splitK, piecesL_none]
    intro c hc e; subst e
    have := List.count_pos_iff.2 hc; omega
  | succ k ih =>
    intro l h
    have hm : (32 : UInt8) ∈ l := List.count_pos_iff.1 (by omega)
    have hi : Lib.index l [32] = Lib.indexByte l 32 := Lib.index_one l 32
    have hne : Lib.indexByte l 32 ≠ -1 := fun e => by
      obtain ⟨j, hj, hv⟩ := List.getElem_of_mem hm
      exact Lib.indexByte_none e j (by rw [List.getElem?_eq_getElem hj, hv])
    have hge := Lib.indexByte_ge l 32
    obtain ⟨o, ho⟩ : ∃ o : Nat, Lib.indexByte l 32 = o := ⟨(Lib.indexByte l 32).toNat, by omega⟩
    obtain ⟨h1, h2⟩ := Lib.indexByte_some ho
    have hol : o < l.length := (List.getElem?_eq_some_iff.1 h1).1
    have hlo : l[o] = 32 := (List.getElem?_eq_some_iff.1 h1).2
    have hs : l = l.take o ++ 32 :: l.drop (o + 1) := by
      conv => lhs; rw [← List.take_append_drop o l, List.drop_eq_getElem_cons hol, hlo]
    have hn : ∀ c ∈ l.take o, c ≠ 32 := by
      intro c hc e; subst e
      obtain ⟨j, hj, hv⟩ := List.getElem_of_mem hc
      rw [List.getElem_take] at hv
      have hj' : j < o := by rw [List.length_take] at hj; omega
      exact h2 j hj' (by rw [List.getElem?_eq_getElem (by omega), hv])
    rw [Lib.splitK, if_neg (by rw [hi]; simpa using hne), hi, ho]
    have hc : (l.drop (o + 1)).count 32 = k := by
      have : l.count 32 = (l.take o).count 32 + ((32 :: l.drop (o + 1)).count 32) := by
        conv => lhs; rw [hs]
        rw [List.count_append]
      rw [List.count_eq_zero.2 (fun hm => hn 32 hm rfl), List.count_cons_self] at this
      omega
    have hp : piecesL l = l.take o :: piecesL (l.drop (o + 1)) := by
      conv => lhs; rw [hs]
      exact piecesL_cut hn
    rw [hp]
    simp only [Int.toNat_natCast, Nat.add_zero, List.length_singleton]
    rw [ih _ hc]
theorem splitB_space (s : ByteArray) : Lib.splitB spaceB 0 (Lib.countB s spaceB) s = piecesB s := by
  have h : (Lib.splitB spaceB 0 (Lib.countB s spaceB) s).map bl = piecesL (bl s) := by
    have := Lib.splitB_data spaceB 0 (Lib.countB s spaceB) s
    rw [show spaceB.data.toList = [32] from rfl] at this
    rw [show (fun x : ByteArray => x.data.toList) = bl from rfl] at this
    rw [this]
    exact split_space _ _ (Lib.count_one 32 _).symm
  unfold piecesB
  rw [← h, List.map_map, show mkB ∘ bl = id from funext mkB_bl, List.map_id]
theorem countB_space (s : ByteArray) : Lib.countB s spaceB + 1 = (piecesB s).length := by
  rw [piecesB_length]; exact congrArg (· + 1) (Lib.count_one 32 _)

theorem get!_eq (s : ByteArray) (i : Nat) (h : i < s.size) : s.get! i = s[i] := by
  show s.data.get!Internal i = _
  rw [Array.get!Internal_eq_getElem!, getElem!_pos s.data i h]; rfl

theorem decode_low (s : ByteArray) (i : Nat) (hi : i < s.size) (h : s[i].toNat < 128) : Utf8.decode s i = (s[i].toNat, 1) := by
  have h0 : (s.get! (i + 0)).toNat = s[i].toNat := by rw [Nat.add_zero, get!_eq s i hi]
  unfold Utf8.decode
  simp only [h0, h, ↓reduceIte]
theorem decode_high (s : ByteArray) (i : Nat) (hi : i < s.size) (h : ¬ s[i].toNat < 128) :
    32 < (Utf8.decode s i).1 ∧ 1 ≤ (Utf8.decode s i).2 ∧ ∀ j, i ≤ j → j < i + (Utf8.decode s i).2 → ∃ hj : j < s.size, 128 ≤ s[j].toNat := by
  have h0 : (s.get! (i + 0)).toNat = s[i].toNat := by rw [Nat.add_zero, get!_eq s i hi]
  have one : ∀ j, i ≤ j → j < i + 1 → ∃ hj : j < s.size, 128 ≤ s[j].toNat := fun j h1 h2 => by
    obtain rfl : j = i := by omega
    exact ⟨hi, by omega⟩
  have ct : ∀ k, (decide (i + k < s.size) && (s.get! (i + k)).toNat / 64 == 2) = true → ∃ hj : i + k < s.size, 128 ≤ s[i + k].toNat := fun k hk => by
    simp only [Bool.and_eq_true, decide_eq_true_eq, beq_iff_eq] at hk
    refine ⟨hk.1, ?_⟩
    have := hk.2
    rw [get!_eq s _ hk.1] at this; omega
  unfold Utf8.decode
  simp only [h0, h, ↓reduceIte]
  split
  · rename_i hc
    rw [Bool.and_eq_true] at hc
    have c1 := ct 1 hc.2
    split
    · rename_i hv
      refine ⟨by omega, by omega, fun j h1 h2 => ?_⟩
      rcases (show j = i ∨ j = i + 1 by omega) with rfl | rfl
      · exact ⟨hi, by omega⟩
      · exact c1
    · exact ⟨by unfold Utf8.runeError; omega, by omega, one⟩
  · split
    · rename_i hc
      simp only [Bool.and_eq_true] at hc
      have c1 := ct 1 (by simpa using hc.1.2)
      have c2 := ct 2 (by simpa using hc.2)
      split
      · rename_i hv
        rw [Bool.and_eq_true, decide_eq_true_eq] at hv
        refine ⟨by omega, by omega, fun j h1 h2 => ?_⟩
        rcases (show j = i ∨ j = i + 1 ∨ j = i + 2 by omega) with rfl | rfl | rfl
        · exact ⟨hi, by omega⟩
        · exact c1
        · exact c2
      · exact ⟨by unfold Utf8.runeError; omega, by omega, one⟩
    · split
      · rename_i hc
        simp only [Bool.and_eq_true] at hc
        have c1 := ct 1 (by simpa using hc.1.1.2)
        have c2 := ct 2 (by simpa using hc.1.2)
        have c3 := ct 3 (by simpa using hc.2)
        split
        · rename_i hv
          rw [Bool.and_eq_true, decide_eq_true_eq] at hv
          refine ⟨by omega, by omega, fun j h1 h2 => ?_⟩
          rcases (show j = i ∨ j = i + 1 ∨ j = i + 2 ∨ j = i + 3 by omega) with rfl | rfl | rfl | rfl
          · exact ⟨hi, by omega⟩
          · exact c1
          · exact c2
          · exact c3
        · exact ⟨by unfold Utf8.runeError; omega, by omega, one⟩
      · exact ⟨by unfold Utf8.runeError; omega, by omega, one⟩

def lowR (r : Nat) : Bool := decide (r ≤ 32)
theorem low_from (s : ByteArray) : ∀ (f pos : Nat), s.size ≤ pos + f → (0 ≤ Lib.idxFuncFrom lowR true s f pos ↔ ∃ j, ∃ hj : j < s.size, pos ≤ j ∧ s[j].toNat ≤ 32) := by
  intro f
  induction f with
  | zero =>
    intro pos h
    simp only [Lib.idxFuncFrom]
    exact ⟨fun h => by omega, fun ⟨j, hj, h1, _⟩ => by omega⟩
  | succ f ih =>
    intro pos h
    simp only [Lib.idxFuncFrom]
    by_cases hp : pos < s.size
    · rw [if_pos hp]
      by_cases hlow : s[pos].toNat < 128
      · rw [decode_low s pos hp hlow]
        by_cases h32 : s[pos].toNat ≤ 32
        · rw [if_pos (by simp [lowR, h32])]
          exact ⟨fun _ => ⟨pos, hp, Nat.le_refl _, h32⟩, fun _ => by omega⟩
        · rw [if_neg (by simp [lowR]; omega), ih (pos + 1) (by omega)]
          constructor
          · rintro ⟨j, hj, h1, h2⟩; exact ⟨j, hj, by omega, h2⟩
          · rintro ⟨j, hj, h1, h2⟩
            by_cases e : j = pos
            · subst e; exact absurd h2 h32
            · exact ⟨j, hj, by omega, h2⟩
      · obtain ⟨h1, h2, h3⟩ := decode_high s pos hp hlow
        rw [if_neg (by simp [lowR]; omega), ih (pos + (Utf8.decode s pos).2) (by omega)]
        constructor
        · rintro ⟨j, hj, h1, h2⟩; exact ⟨j, hj, by omega, h2⟩
        · rintro ⟨j, hj, hj1, hj2⟩
          refine ⟨j, hj, ?_, hj2⟩
          rcases Nat.lt_or_ge j (pos + (Utf8.decode s pos).2) with hlt | hge
          · obtain ⟨_, h4⟩ := h3 j hj1 hlt; omega
          · exact hge
    · rw [if_neg hp]
      exact ⟨fun h => by omega, fun ⟨j, hj, h1, _⟩ => by omega⟩
theorem low_iff (s : ByteArray) : decide (0 ≤ Lib.idxFunc lowR true s) = !((bl s).all (fun c => decide (32 < c.toNat))) := by
  unfold Lib.idxFunc
  rw [Bool.eq_iff_iff, decide_eq_true_eq, low_from s s.size 0 (by omega), Bool.not_eq_true', List.all_eq_false]
  constructor
  · rintro ⟨j, hj, _, h⟩; exact ⟨s[j], List.getElem_mem (by rw [bl_len]; exact hj), by simp; omega⟩
  · rintro ⟨c, hc, h⟩
    obtain ⟨j, hj, rfl⟩ := List.getElem_of_mem hc
    rw [bl_len] at hj
    exact ⟨j, hj, Nat.zero_le _, Nat.le_of_not_lt (fun hlt => h (decide_eq_true hlt))⟩
end Go.Proofs.YtgkpoopiamicnaaDoor
namespace Go.Proofs.YtgkpoopiamicnaaDoor
open Go.RowKit

def putF (f : ByteArray → Option Int) (e : ByteArray × Nat) : ByteArray → Option Int := fun t => if t = e.1 then some (e.2 : Int) else f t
def placeF (es : List (ByteArray × Nat)) : ByteArray → Option Int := es.foldl putF (fun _ => none)
def firstB (s : ByteArray) : UInt8 := (bl s).headD 0
def moreM (m : UInt8 → Int) (e : ByteArray × Nat) : UInt8 → Int := fun b => if b = firstB e.1 then max (m b) e.1.size else m b
def mostF (es : List (ByteArray × Nat)) : UInt8 → Int := es.foldl moreM (fun _ => 0)
theorem placeF_snoc (es : List (ByteArray × Nat)) (e : ByteArray × Nat) : placeF (es ++ [e]) = putF (placeF es) e := by simp [placeF, List.foldl_append]
theorem mostF_snoc (es : List (ByteArray × Nat)) (e : ByteArray × Nat) : mostF (es ++ [e]) = moreM (mostF es) e := by simp [mostF, List.foldl_append]
theorem mem_of_foldr_rev {α : Type} {p : List α → Prop} (h0 : p []) (h1 : ∀ l a, p l → p (l ++ [a])) (l : List α) : p l := by
  have : ∀ l : List α, p l.reverse := by
    intro l
    induction l with
    | nil => exact h0
    | cons a l ih => rw [List.reverse_cons]; exact h1 _ _ ih
  have h := this l.reverse
  rwa [List.reverse_reverse] at h
/-- A text has a place just where it is a letter. -/
theorem placeF_isSome (es : List (ByteArray × Nat)) (t : ByteArray) : (placeF es t).isSome = true ↔ t ∈ es.map Prod.fst := by
  induction es using mem_of_foldr_rev with
  | h0 => simp [placeF]
  | h1 es e ih =>
    rw [placeF_snoc, putF]
    by_cases h : t = e.1
    · rw [if_pos h]; simp [h]
    · rw [if_neg h, ih]; simp [h]
theorem placeF_mem {es : List (ByteArray × Nat)} {t : ByteArray} {i : Int} (h : placeF es t = some i) : ∃ e ∈ es, e.1 = t ∧ (e.2 : Int) = i := by
  induction es using mem_of_foldr_rev with
  | h0 => cases h
  | h1 es e ih =>
    rw [placeF_snoc, putF] at h
    by_cases he : t = e.1
    · rw [if_pos he] at h; injection h with h; exact ⟨e, by simp, he.symm, h⟩
    · rw [if_neg he] at h; obtain ⟨e', h1, h2⟩ := ih h; exact ⟨e', by simp [h1], h2⟩
theorem mostF_nonneg (es : List (ByteArray × Nat)) (b : UInt8) : 0 ≤ mostF es b := by
  induction es using mem_of_foldr_rev with
  | h0 => simp [mostF]
  | h1 es e ih => rw [mostF_snoc, moreM]; split <;> omega
theorem mostF_le (es : List (ByteArray × Nat)) (b : UInt8) (h : ∀ e ∈ es, e.1.size ≤ 8) : mostF es b ≤ 8 := by
  induction es using mem_of_foldr_rev with
  | h0 => simp [mostF]
  | h1 es e ih =>
    have := ih (fun e he => h e (by simp [he]))
    have := h e (by simp)
    rw [mostF_snoc, moreM]; split <;> omega
theorem mostF_ge {es : List (ByteArray × Nat)} {e : ByteArray × Nat} (h : e ∈ es) : (e.1.size : Int) ≤ mostF es (firstB e.1) := by
  induction es using mem_of_foldr_rev with
  | h0 => cases h
  | h1 es e' ih =>
    rw [mostF_snoc, moreM]
    rw [List.mem_append, List.mem_singleton] at h
    rcases h with h | rfl
    · have := ih h; split <;> omega
    · rw [if_pos rfl]; omega

theorem mem_ents {gs : List (List ByteArray)} {e : ByteArray × Nat} : e ∈ ents gs ↔ ∃ l, gs[e.2]? = some l ∧ e.1 ∈ l := by
  have : ∀ (gs : List (List ByteArray)) (k : Nat), e ∈ entsFrom k gs ↔ ∃ j l, e.2 = k + j ∧ gs[j]? = some l ∧ e.1 ∈ l := by
    intro gs
    induction gs with
    | nil => intro k; simp [entsFrom]
    | cons g gs ih =>
      intro k
      simp only [entsFrom, List.mem_append, List.mem_map, ih (k + 1)]
      constructor
      · rintro (⟨x, hx, rfl⟩ | ⟨j, l, h1, h2, h3⟩)
        · exact ⟨0, g, rfl, rfl, hx⟩
        · exact ⟨j + 1, l, by omega, h2, h3⟩
      · rintro ⟨j, l, h1, h2, h3⟩
        cases j with
        | zero =>
          simp only [List.getElem?_cons_zero, Option.some.injEq] at h2; subst h2
          exact .inl ⟨e.1, h3, by rw [show k = e.2 by omega]⟩
        | succ j => exact .inr ⟨j, l, by omega, h2, h3⟩
  rw [ents, this]
  constructor
  · rintro ⟨j, l, h1, h2, h3⟩; exact ⟨l, by rw [h1, Nat.zero_add]; exact h2, h3⟩
  · rintro ⟨l, h1, h2⟩; exact ⟨e.2, l, by omega, h1, h2⟩
theorem ents_fst (gs : List (List ByteArray)) : (ents gs).map (·.1) = gs.flatten := by
  have : ∀ (gs : List (List ByteArray)) (k : Nat), (entsFrom k gs).map (·.1) = gs.flatten := by
    intro gs
    induction gs with
    | nil => intro k; rfl
    | cons g gs ih => intro k; simp only [entsFrom, List.map_append, ih, List.flatten_cons, List.map_map]; rw [show (fun x : ByteArray × Nat => x.1) ∘ (fun x : ByteArray => (x, k)) = id from rfl, List.map_id]
  exact this gs 0
theorem nodup_snd {es : List (ByteArray × Nat)} (h : (es.map (·.1)).Nodup) {a b : ByteArray × Nat} (ha : a ∈ es) (hb : b ∈ es) (e : a.1 = b.1) : a = b := by
  induction es with
  | nil => cases ha
  | cons x es ih =>
    rw [List.map_cons, List.nodup_cons] at h
    rcases List.mem_cons.1 ha with h1 | h1
    · rcases List.mem_cons.1 hb with h2 | h2
      · rw [h1, h2]
      · exact absurd (List.mem_map.2 ⟨b, h2, by rw [← e, h1]⟩) h.1
    · rcases List.mem_cons.1 hb with h2 | h2
      · exact absurd (List.mem_map.2 ⟨a, h1, by rw [e, h2]⟩) h.1
      · exact ih h.2 h1 h2
/-- An alphabet as New lets it by. -/
structure GoodG (gs : List (List ByteArray)) : Prop where
  nodup : gs.flatten.Nodup
  letters : ∀ x ∈ gs.flatten, letterB (bl x) = true
theorem GoodG.size {gs : List (List ByteArray)} (h : GoodG gs) {e : ByteArray × Nat} (he : e ∈ ents gs) : 1 ≤ e.1.size ∧ e.1.size ≤ 8 := by
  have hm : e.1 ∈ gs.flatten := by rw [← ents_fst]; exact List.mem_map_of_mem he
  have hl := h.letters _ hm
  unfold letterB at hl
  simp only [Bool.and_eq_true, decide_eq_true_eq, bl_len] at hl
  exact hl.1
/-- What 'better' keeps: the best one so far is the longest. -/
theorem longest_max (gs : List (List ByteArray)) (s : ByteArray) : ∀ e ∈ ents gs, bl e.1 <+: bl s → e.1.size ≤ (longest gs s).1.size := by
  unfold longest
  have mono : ∀ (l : List (ByteArray × Nat)) (b : ByteArray × Int), b.1.size ≤ (l.foldl (better39 s) b).1.size := by
    intro l
    induction l with
    | nil => intro b; exact Nat.le_refl _
    | cons a l ih =>
      intro b
      rw [List.foldl_cons]
      refine Nat.le_trans ?_ (ih _)
      unfold better39; split
      · rename_i h; exact Nat.le_of_lt h.1
      · exact Nat.le_refl _
  have : ∀ (l : List (ByteArray × Nat)) (b : ByteArray × Int), ∀ e ∈ l, bl e.1 <+: bl s → e.1.size ≤ (l.foldl (better39 s) b).1.size := by
    intro l
    induction l with
    | nil => intro b e he; cases he
    | cons a l ih =>
      intro b e he hp
      rw [List.foldl_cons]
      rcases List.mem_cons.1 he with rfl | he
      · refine Nat.le_trans ?_ (mono l _)
        unfold better39; split
        · exact Nat.le_refl _
        · rename_i h; exact Nat.le_of_not_lt (fun hlt => h ⟨hlt, hp⟩)
      · exact ih _ e he hp
  exact this _ _
def takeB (s : ByteArray) (n : Nat) : ByteArray := s.extract 0 n
theorem takeB_bl (s : ByteArray) (n : Nat) : bl (takeB s n) = (bl s).take n := by rw [takeB, extract_mkB, bl_mkB, List.drop_zero]
theorem takeB_size (s : ByteArray) (n : Nat) (h : n ≤ s.size) : (takeB s n).size = n := by rw [← bl_len, takeB_bl, List.length_take, bl_len, Nat.min_eq_left h]
theorem takeB_prefix (s : ByteArray) (n : Nat) : bl (takeB s n) <+: bl s := by rw [takeB_bl]; exact List.take_prefix _ _
theorem prefix_takeB {x s : ByteArray} (h : bl x <+: bl s) : x = takeB s x.size := bl_inj (by rw [takeB_bl, ← bl_len]; exact List.prefix_iff_eq_take.1 h)
/-- Nothing longer than n is a letter with which s begins. -/
def NoneAbove (gs : List (List ByteArray)) (s : ByteArray) (n : Nat) : Prop := ∀ m, n < m → m ≤ s.size → placeF (ents gs) (takeB s m) = none
theorem noneAbove_start {gs : List (List ByteArray)} {s : ByteArray} (n : Nat) (hn : (n : Int) = min (s.size : Int) (mostF (ents gs) (firstB s))) : NoneAbove gs s n := by
  intro m hm hms
  cases h : placeF (ents gs) (takeB s m) with
  | none => rfl
  | some i =>
    obtain ⟨e, he, h1, _⟩ := placeF_mem h
    have hsz := takeB_size s m hms
    have hge := mostF_ge he
    have hf : firstB e.1 = firstB s := by
      unfold firstB
      rw [h1, takeB_bl]
      cases hb : bl s with
      | nil => have := bl_len s; rw [hb] at this; simp at this; omega
      | cons c t =>
        cases m with
        | zero => omega
        | succ m => simp
    rw [hf, h1, hsz] at hge
    omega
theorem noneAbove_down {gs : List (List ByteArray)} {s : ByteArray} {n : Nat} (h : NoneAbove gs s (n + 1)) (h1 : placeF (ents gs) (takeB s (n + 1)) = none) : NoneAbove gs s n := by
  intro m hm hms
  by_cases e : m = n + 1
  · subst e; exact h1
  · exact h m (by omega) hms
theorem longest_found {gs : List (List ByteArray)} (hG : GoodG gs) {s : ByteArray} {n : Nat} (hn : n ≤ s.size) (h : NoneAbove gs s n) {i : Int} (hi : placeF (ents gs) (takeB s n) = some i) : longest gs s = (takeB s n, i) := by
  obtain ⟨e, he, h1, h2⟩ := placeF_mem hi
  have hp : bl e.1 <+: bl s := by rw [h1]; exact takeB_prefix s n
  have hsz : e.1.size = n := by rw [h1, takeB_size s n hn]
  have hpos := (hG.size he).1
  have hmax := longest_max gs s e he hp
  rcases longest_sound gs s with h' | ⟨e', he', h', h3, h4⟩
  · rw [h'] at hmax; have : (ByteArray.empty).size = 0 := rfl
    simp only [this] at hmax; omega
  · rw [h'] at hmax ⊢
    have hs' : e'.1.size = n := by
      rcases Nat.lt_or_ge n e'.1.size with hlt | hge
      · have hle : e'.1.size ≤ s.size := by have := h4.length_le; rwa [bl_len, bl_len] at this
        have := h _ hlt hle
        rw [← prefix_takeB h4] at this
        have hsome := (placeF_isSome (ents gs) e'.1).2 (List.mem_map_of_mem he')
        rw [this] at hsome; cases hsome
      · simp only at hmax; omega
    have e1 : e'.1 = takeB s n := by rw [prefix_takeB h4, hs']
    have := nodup_snd (by rw [ents_fst]; exact hG.nodup) he he' (by rw [h1, e1])
    subst this
    rw [h1, h2]
theorem longest_missed {gs : List (List ByteArray)} {s : ByteArray} (h : NoneAbove gs s 0) : longest gs s = (ByteArray.empty, -1) := by
  rcases longest_sound gs s with h' | ⟨e', he', h', h3, h4⟩
  · exact h'
  · have hle : e'.1.size ≤ s.size := by have := h4.length_le; rwa [bl_len, bl_len] at this
    have := h _ h3 hle
    rw [← prefix_takeB h4] at this
    have hsome := (placeF_isSome (ents gs) e'.1).2 (List.mem_map_of_mem he')
    rw [this] at hsome; cases hsome
theorem placeF_empty {gs : List (List ByteArray)} (hG : GoodG gs) (s : ByteArray) : placeF (ents gs) (takeB s 0) = none := by
  cases h : placeF (ents gs) (takeB s 0) with
  | none => rfl
  | some i =>
    obtain ⟨e, he, h1, _⟩ := placeF_mem h
    have := (hG.size he).1
    rw [h1, takeB_size s 0 (by omega)] at this; omega
end Go.Proofs.YtgkpoopiamicnaaDoor
namespace Go.Proofs.YtgkpoopiamicnaaDoor
open Go.RowKit Go.Maps Go.WideMaps

theorem keyS_ : Keyed Tryd.prog 9 := string_keyed Tryd.underlying9
def MapSI (w : World) (b n : Nat) (f : ByteArray → Option Int) : Prop :=
  ∃ D : DataW Unit, w.ownsMap Tryd.prog 9 (plainElem Tryd.prog 3) b n D ∧ IsMap D ∧
    ∀ s : ByteArray, has D (.string s.data.toList) = (f s).isSome ∧ ∀ v, f s = some v → D.atKey (.string s.data.toList) (.lit (.int .i64 0)) = .lit (.int .i64 v)
theorem MapSI.lt {w : World} {b n : Nat} {f : ByteArray → Option Int} (h : MapSI w b n f) : b < w.heap.size := by
  obtain ⟨D, h1, _⟩ := h; exact h1.lt
theorem MapSI.made (w : World) : MapSI (w.alloc (.map #[] 0)) w.heap.size 0 (fun _ => none) :=
  ⟨.map [], World.ownsMap_made w _ _ _, isMap_empty, fun s => ⟨rfl, fun v h => by cases h⟩⟩
theorem MapSI.kept {w w' : World} {b n : Nat} {f : ByteArray → Option Int} {row : Option Nat} (h : MapSI w b n f) (hg : w.grownBy w' row) (hne : some b ≠ row) : MapSI w' b n f := by
  obtain ⟨D, h1, h2⟩ := h; exact ⟨D, h1.kept hg hne, h2⟩
theorem MapSI.below {w w' : World} {b n : Nat} {f : ByteArray → Option Int} (h : MapSI w b n f) (hb : Below w.heap.size w w') : MapSI w' b n f :=
  h.kept (row := none) ⟨hb.os, hb.tape, hb.output, hb.size, fun i hi _ => hb.block i hi⟩ (by simp)
theorem MapSI.isMap {w : World} {b n : Nat} {f : ByteArray → Option Int} (h : MapSI w b n f) : ∃ es clock, w.heap[b]? = some (.map es clock) := by
  obtain ⟨D, ⟨es, clock, hb, _⟩, _⟩ := h; exact ⟨es, clock, hb⟩
theorem key_string {s : ByteArray} (hs : s.size ≤ maxLen) : keyOf Tryd.prog 9 (.string s) = some (.string s.data.toList) := keyOf_string_mk Tryd.underlying9 hs
theorem zero_int (w : World) : (zeroValue 3).run Tryd.prog w = .ok (.int .i64 0) w := by kernel_rfl
/-- 'v, ok := m[s]'. -/
theorem MapSI.look {w : World} {b n : Nat} {f : ByteArray → Option Int} (h : MapSI w b n f) (s : ByteArray) (hs : s.size ≤ maxLen) :
    (Instr.lookup 71 (.map (some b)) (.string s) true).run Tryd.prog w = .ok (.tuple #[.int .i64 ((f s).getD 0), .bool (f s).isSome]) w := by
  obtain ⟨D, h1, h2, h3⟩ := h
  obtain ⟨v, ps, hrun, hv⟩ := h1.look_ok keyS_ Tryd.underlying71 (zero_int w) (plainElem_int (H := Unit) (a := 0) Tryd.underlying3 (by decide)) (key_string hs)
  obtain ⟨c, rfl, hc, _⟩ := plainElem_int_inv Tryd.underlying3 hv
  simp only [Prod.mk.injEq] at hc
  rw [hrun, (h3 s).1]
  cases hf : f s with
  | none =>
    have hh : has D (.string s.data.toList) = false := by rw [(h3 s).1, hf]; rfl
    rw [atKey_of_not_has hh] at hc
    have : c = 0 := (Lit.int.inj (DataW.lit.inj hc.1)).2.symm
    subst this; simp only [Option.isSome_none, Option.getD_none]
  | some x =>
    rw [(h3 s).2 x hf] at hc
    have : c = x := (Lit.int.inj (DataW.lit.inj hc.1)).2.symm
    subst this; simp only [Option.isSome_some, Option.getD_some]
/-- 'm[s] = v'. -/
theorem wpList_putSI {w : World} {ops : Array Oper} {rest : List Oper} {o : Oper} {a : Act} {Q : Exit → Act → World → Prop}
    (hg : o.guard = none) (m x v : Operand) (hop : o.op = Op.mapUpdate 71 m x v) (b n : Nat) (f : ByteArray → Option Int) (hm : a.eval m = .map (some b)) (h : MapSI w b n f) (hn : n < maxLen)
    (s : ByteArray) (hs : s.size ≤ maxLen) (i : Int) (hi : (Lit.int .i64 i).wf = true) (hx : a.eval x = .string s) (hv : a.eval v = .int .i64 i)
    (hK : ∀ w', MapSI w' b (n + 1) (fun t => if t = s then some i else f t) → w.grownBy w' (some b) → wpList Tryd.prog ops Q rest (a.put o.dst undef) w') :
    wpList Tryd.prog ops Q (o :: rest) a w := by
  obtain ⟨D, h1, h2, h3⟩ := h
  refine wpList_mapUpdate_own w hg m x v 71 hop 9 3 keyS_ Tryd.underlying71 _ b n D hm h1 hn (.string s) (.int .i64 i) (.string s.data.toList) hx hv (key_string hs) (.lit (.int .i64 i)) [] (plainElem_int Tryd.underlying3 hi) ?_
  intro w1 hown hgrow
  refine hK w1 ⟨_, hown, h2.put _ _, fun t => ?_⟩ hgrow
  have hlit : WideAt.IsKeyLit (.string s.data.toList) := by first | trivial | rfl | (unfold WideAt.IsKeyLit; trivial)
  by_cases e : t = s
  · subst e
    simp only [↓reduceIte]
    exact ⟨has_put_same h2 hlit _, fun v hv => by injection hv with hv; subst hv; exact atKey_put_same h2 hlit _ _⟩
  · simp only [if_neg e]
    have hne : (Lit.string t.data.toList) ≠ .string s.data.toList := fun h => e (by
      injection h with h
      obtain ⟨⟨l⟩⟩ := t; obtain ⟨⟨l'⟩⟩ := s
      simp only at h; rw [h])
    rw [has_put_other hne, atKey_put_other hne]
    exact h3 t
end Go.Proofs.YtgkpoopiamicnaaDoor
namespace Go.Proofs.YtgkpoopiamicnaaDoor
open Go.RowKit Go.Shelf

/-- The library's variable MaxLen holds some int. -/
def MaxOk (w : World) : Prop := ∃ m : Int, w.cell? ⟨0, 0, none⟩ = some (.int .i64 m)
theorem MaxOk.below {w w' : World} (h : MaxOk w) (hb : Below w.heap.size w w') : MaxOk w' := by
  obtain ⟨m, hm⟩ := h
  exact ⟨m, (hb.cell (p := ⟨0, 0, none⟩) (lt_of_cell hm)).trans hm⟩
theorem count_any (s : ByteArray) (w : World) :
    Calls Tryd.prog 36 #[.string s, .string ⟨#[32]⟩] w fun e w' => e = .returned (.int .i64 ((bl s).count 32 : Nat)) ∧ w = w' :=
  (Tryd.strings_Count_one s 32 w).mono fun _ _ ⟨h1, h2⟩ => ⟨h1, h2.symm⟩
theorem split_any39 (s : ByteArray) (w : World) (hm : MaxOk w) (hs : s.size ≤ 16384) :
    Calls Tryd.prog 37 #[.string s, .string ⟨#[32]⟩] w (GivesS w (piecesB s)) := by
  obtain ⟨m, hm⟩ := hm
  refine (Tryd.strings_Split s ⟨#[32]⟩ m w (by omega) hm (by decide)).mono ?_
  rintro e w' ⟨rfl, rfl⟩
  have h1 : Lib.splitB ⟨#[32]⟩ 0 (Lib.countB s ⟨#[32]⟩) s = piecesB s := splitB_space s
  have h2 : Lib.countB s ⟨#[32]⟩ + 1 = (piecesB s).length := countB_space s
  have h3 := piecesB_le s
  rw [h1, h2]
  refine ⟨_, rfl, ?_, (Below.refl _ _).alloc (Nat.le_refl _) _⟩
  exact ⟨by simp, .inr ⟨w.heap.size, (piecesB s).length, ((piecesB s).map Value.string).toArray, rfl, Nat.le_refl _, heap_alloc_new w _, Nat.le_refl _, by unfold maxLen; omega, by simp, by rw [Nat.mul_one, List.toList_toArray]; exact List.take_of_length_le (by simp)⟩⟩
theorem low_any (x : Nat) (W : World) : Calls Tryd.prog 39 #[.int .i32 x] W fun e w' => e = .returned (.bool (lowR x)) ∧ ∃ q, w' = W.drewN q := by
  go_enter Tryd.func39, Tryd.ntmps39
  go_wp2
  go_ret
  refine ⟨?_, 0, rfl⟩
  have : lowR x = decide ((x : Int) ≤ 32) := by unfold lowR; rw [decide_eq_decide]; omega
  rw [this]; rfl
theorem contains_any (s : ByteArray) (w : World) :
    Calls Tryd.prog 38 #[.string s, .func (.func 39) #[] #[]] w fun e w' => e = .returned (.bool (!((bl s).all fun c => decide (32 < c.toNat)))) ∧ Below w.heap.size w w' := by
  have h := Tryd.strings_ContainsFunc 39 #[] (enters_of Tryd.func39 (by kernel_rfl) rfl) lowR s w (fun W x _ => low_any x W)
  rw [low_iff] at h
  exact h
end Go.Proofs.YtgkpoopiamicnaaDoor
