/-
  layer 3: texts that consist of some bytes. Conditions: texts that can be read.
-/
import Derived.Test.YtohggdfplmlinaaGreatDoorZaac
import Derived.Test.YtohggdfplmlinaaGreatDoorShelf
import Derived.Test.YtohggdfplmlinaaGreatDoorZaaa
import Derived.Deep.QuietTactic
import Derived.BigQuiet
namespace Go.Proofs.YtohggdfplmlinaaGreatDoor
open Go.RowKit Go.Lib

set_option maxRecDepth 20000 in
theorem small_any (c : UInt8) (w : World) : Calls Tryz.prog 46 #[.int .u8 c.toNat] w fun e w' => e = .returned (.bool (smallC c)) ∧ w = w' := by
  have hc := c.toNat_lt
  obtain ⟨r, hr⟩ : ∃ r, smallC c = r := ⟨_, rfl⟩
  rw [hr]
  unfold smallC at hr
  generalize c.toNat = n at *
  have HR := Lib.hid hr
  clear hr
  by_cases h1 : 97 ≤ n
  · by_cases h2 : n ≤ 122
    · obtain rfl : r = true := by rw [← HR.out, decide_eq_true h1, decide_eq_true h2]; rfl
      have g1 : (97 : Int) ≤ (n : Int) := by omega
      have g2 : (n : Int) ≤ 122 := by omega
      clear h1 h2
      go_enter Tryz.func46, Tryz.ntmps46
      go_wp2
      go_ret
      exact ⟨rfl, rfl⟩
    · obtain rfl : r = false := by rw [← HR.out, decide_eq_false h2, decide_eq_false (show ¬ n ≤ 57 by omega)]; simp
      have g1 : (97 : Int) ≤ (n : Int) := by omega
      have g2 : ¬ (n : Int) ≤ 122 := by omega
      have g3 : (48 : Int) ≤ (n : Int) := by omega
      have g4 : ¬ (n : Int) ≤ 57 := by omega
      clear h1 h2
      go_enter Tryz.func46, Tryz.ntmps46
      go_wp2
      go_ret
      exact ⟨rfl, rfl⟩
  · have g1 : ¬ (97 : Int) ≤ (n : Int) := by omega
    by_cases h3 : 48 ≤ n
    · have g3 : (48 : Int) ≤ (n : Int) := by omega
      by_cases h4 : n ≤ 57
      · obtain rfl : r = true := by rw [← HR.out, decide_eq_false h1, decide_eq_true h3, decide_eq_true h4]; rfl
        have g4 : (n : Int) ≤ 57 := by omega
        clear h1 h3 h4
        go_enter Tryz.func46, Tryz.ntmps46
        go_wp2
        go_ret
        exact ⟨rfl, rfl⟩
      · obtain rfl : r = false := by rw [← HR.out, decide_eq_false h1, decide_eq_true h3, decide_eq_false h4]; rfl
        have g4 : ¬ (n : Int) ≤ 57 := by omega
        clear h1 h3 h4
        go_enter Tryz.func46, Tryz.ntmps46
        go_wp2
        go_ret
        exact ⟨rfl, rfl⟩
    · obtain rfl : r = false := by rw [← HR.out, decide_eq_false h1, decide_eq_false h3]; rfl
      have g3 : ¬ (48 : Int) ≤ (n : Int) := by omega
      clear h1 h3
      go_enter Tryz.func46, Tryz.ntmps46
      go_wp2
      go_ret
      exact ⟨rfl, rfl⟩
def otherB : ByteArray := ⟨#[64, 63, 33, 38, 42, 36, 37]⟩
theorem idx_has (l : List UInt8) (c : UInt8) : decide (0 ≤ Lib.indexByte l c) = l.contains c := by
  have hge := Lib.indexByte_ge l c
  by_cases h : Lib.indexByte l c = -1
  · rw [h, decide_eq_false (by decide)]
    have hn := Lib.indexByte_none h
    cases hc : l.contains c with
    | false => rfl
    | true =>
      obtain ⟨k, hk, e⟩ := List.getElem_of_mem (List.contains_iff_mem.1 hc)
      exact absurd (by rw [List.getElem?_eq_getElem hk, e]) (hn k)
  · rw [decide_eq_true (by omega)]
    have hs := (Lib.indexByte_some (l := l) (c := c) (o := (Lib.indexByte l c).toNat) (by omega)).1
    exact (List.contains_iff_mem.2 (List.mem_of_getElem? hs)).symm
theorem otherC_idx (c : UInt8) : otherC c = decide (0 ≤ Lib.indexByte otherB.data.toList c) := (idx_has _ _).symm
set_option maxRecDepth 20000 in
theorem sym_any (c : UInt8) (w : World) : Calls Tryz.prog 49 #[.int .u8 c.toNat] w fun e w' => e = .returned (.bool (symC c)) ∧ w = w' := by
  have hc := c.toNat_lt
  have hsm := small_any c w
  have hi := Tryz.strings_IndexByte otherB c.toNat w
  have hcc : (c.toNat : Int).toNat.toUInt8 = c := by simp
  rw [hcc] at hi
  have ho := otherC_idx c
  obtain ⟨r, hr⟩ : ∃ r, symC c = r := ⟨_, rfl⟩
  rw [hr]
  unfold symC at hr
  generalize smallC c = b1 at *
  generalize Lib.indexByte otherB.data.toList c = k at *
  generalize otherC c = b3 at *
  generalize c.toNat = n at *
  have HR := Lib.hid hr; have HS := Lib.hid hsm; have HI := Lib.hid hi; have HO := Lib.hid ho
  clear hr hsm hi ho hcc
  unfold otherB at HI
  cases b1 with
  | true =>
    obtain rfl : r = true := by rw [← HR.out]; rfl
    go_enter Tryz.func49, Tryz.ntmps49
    go_wp2_with (go_at_call 46; refine HS.out.mono ?_; rintro e w' ⟨rfl, rfl⟩)
    go_ret
    exact ⟨rfl, rfl⟩
  | false =>
    by_cases h1 : 65 ≤ n ∧ n ≤ 90
    · obtain rfl : r = true := by rw [← HR.out, decide_eq_true h1.1, decide_eq_true h1.2]; rfl
      have g1 : (65 : Int) ≤ (n : Int) := by omega
      have g2 : (n : Int) ≤ 90 := by omega
      clear h1
      go_enter Tryz.func49, Tryz.ntmps49
      go_wp2_with (go_at_call 46; refine HS.out.mono ?_; rintro e w' ⟨rfl, rfl⟩)
      go_ret
      exact ⟨rfl, rfl⟩
    · obtain rfl : r = decide (0 ≤ k) := by
        rw [← HR.out, ← HO.out]
        have : (decide (65 ≤ n) && decide (n ≤ 90)) = false := by rw [← Bool.decide_and, decide_eq_false h1]
        rw [this]
        rfl
      by_cases g1 : (65 : Int) ≤ (n : Int)
      · have g2 : decide ((n : Int) ≤ 90) = false := decide_eq_false (by omega)
        clear h1
        go_enter Tryz.func49, Tryz.ntmps49
        go_wp2_with (first | (go_at_call 46; refine HS.out.mono ?_; rintro e w' ⟨rfl, rfl⟩) | (go_at_call 50; refine HI.out.mono ?_; rintro e w' ⟨rfl, rfl⟩))
        go_ret
        exact ⟨rfl, rfl⟩
      · clear h1
        go_enter Tryz.func49, Tryz.ntmps49
        go_wp2_with (first | (go_at_call 46; refine HS.out.mono ?_; rintro e w' ⟨rfl, rfl⟩) | (go_at_call 50; refine HI.out.mono ?_; rintro e w' ⟨rfl, rfl⟩))
        go_ret
        exact ⟨rfl, rfl⟩
/-- What consists asks of its kind of bytes: a contract of the function that was handed in. -/
def KindOf (f : Nat) (p : UInt8 → Bool) : Prop := (∀ args w, (callFunc f args).run Tryz.prog w = .ok (.enter f args) w) ∧ ∀ (c : UInt8) (w : World), Calls Tryz.prog f #[.int .u8 c.toNat] w fun e w' => e = .returned (.bool (p c)) ∧ w = w'
theorem all_take_next {α : Type} (p : α → Bool) (l : List α) (k : Nat) (hk : k < l.length) : (l.take (k + 1)).all p = ((l.take k).all p && p l[k]) := by
  rw [List.take_succ_eq_append_getElem hk, List.all_append]; simp
theorem size_bs (s : ByteArray) : (bs s).length = s.size := by unfold bs; exact Array.length_toList
set_option maxRecDepth 20000 in
theorem consists_any (f : Nat) (p : UInt8 → Bool) (most : Nat) (s : ByteArray) (w : World) (hf : KindOf f p) (hs : s.size ≤ maxLen) :
    Calls Tryz.prog 45 #[.string s, .int .i64 most, .func (.func f) #[] #[]] w fun e w' => e = .returned (.bool (consC p most s)) ∧ w = w' := by
  unfold maxLen at hs
  obtain ⟨r, hr⟩ : ∃ r, consC p most s = r := ⟨_, rfl⟩
  rw [hr]
  unfold consC at hr
  have hl := size_bs s
  obtain ⟨hen, hf⟩ := hf
  have HR := Lib.hid hr; have HL := Lib.hid hl; have HF := Lib.hid hf
  clear hr hl hf
  by_cases h1 : 1 ≤ s.size
  · by_cases h2 : s.size ≤ most
    · have g1 : ¬ (s.size : Int) < 1 := by omega
      have g2 : ¬ (most : Int) < (s.size : Int) := by omega
      have HPRE : Hid (∀ b, (decide (1 ≤ s.size) && decide (s.size ≤ most) && b) = b) := Lib.hid fun b => by rw [decide_eq_true h1, decide_eq_true h2]; rfl
      rw [HPRE.out] at HR
      clear h1 h2
      go_enter Tryz.func45, Tryz.ntmps45
      go_wp2
      go_loop [19] (fun i => ∃ k : Nat, k ≤ s.size ∧ i = .int .i64 k ∧ ((bs s).take k).all p = true) (fun i => s.size - (RowKit.intOf i).toNat)
      case atStart => exact ⟨0, by omega, rfl, rfl⟩
      case round =>
        obtain ⟨k, hk, rfl, hall⟩ := hrel
        have HALL := Lib.hid hall
        clear hall
        by_cases hlt : k < s.size
        · have hkI : (k : Int) < (s.size : Int) := by omega
          have hkb : k < (bs s).length := by rw [HL.out]; exact hlt
          have hst := all_take_next p (bs s) k hkb
          have hge : (bs s)[k] = s[k] := rfl
          have hno : p (bs s)[k] = false → r = false := fun h => by
            rw [← HR.out]
            cases ha : (bs s).all p with
            | false => rfl
            | true => rw [List.all_eq_true.1 ha _ (List.getElem_mem hkb)] at h; cases h
          rw [hge] at hst hno
          have hcall := HF.out s[k] w
          obtain ⟨b, hb⟩ : ∃ b, p s[k] = b := ⟨_, rfl⟩
          rw [hb] at hst hno hcall
          have HST := Lib.hid hst; have HNO := Lib.hid hno; have HC := Lib.hid hcall
          clear hst hge hno hcall hb
          go_wp2_with fail
          refine HC.out.mono ?_
          rintro e w' ⟨rfl, rfl⟩
          cases b with
          | true =>
            go_wp2
            go_round
            case rel => exact ⟨k + 1, by omega, by go_num, by rw [HST.out, HALL.out]; rfl⟩
            case measure => simp [RowKit.intOf]; omega
          | false =>
            obtain rfl := HNO.out rfl
            go_wp2
            go_ret
            exact ⟨rfl, rfl⟩
        · obtain rfl : k = s.size := by omega
          have hr1 : r = true := by
            rw [← HR.out]
            have := HALL.out
            rwa [List.take_of_length_le (by rw [HL.out]; exact Nat.le_refl _)] at this
          subst hr1
          go_wp2
          go_ret
          exact ⟨rfl, rfl⟩
    · have g1 : ¬ (s.size : Int) < 1 := by omega
      have g2 : (most : Int) < (s.size : Int) := by omega
      obtain rfl : r = false := by rw [← HR.out, decide_eq_false h2]; simp
      clear h1 h2
      go_enter Tryz.func45, Tryz.ntmps45
      go_wp2
      go_ret
      exact ⟨rfl, rfl⟩
  · have g1 : (s.size : Int) < 1 := by omega
    obtain rfl : r = false := by rw [← HR.out, decide_eq_false h1]; rfl
    clear h1
    go_enter Tryz.func45, Tryz.ntmps45
    go_wp2
    go_ret
    exact ⟨rfl, rfl⟩
end Go.Proofs.YtohggdfplmlinaaGreatDoor
namespace Go.Proofs.YtohggdfplmlinaaGreatDoor
open Go.RowKit

theorem grown_of_below {w w' : World} (h : Below w.heap.size w w') (row : Option Nat) : w.grownBy w' row := ⟨h.os, h.tape, h.output, h.size, fun i hi _ => h.block i hi⟩
theorem own_below {w w' : World} {base : Nat} {e : TypeId} {size n : Nat} {v : Value} {xs : List Value} (h : w.ownsRow base e size v n xs) (hb : Below w.heap.size w w') : w'.ownsRow base e size v n xs :=
  h.kept (grown_of_below hb none) (by
    rcases h.2 with ⟨rfl, _⟩ | ⟨g, cap, cur, rfl, _⟩
    · exact .inl rfl
    · exact .inr (by simp [Value.ownBlock]))
theorem own_blocks {w w' : World} {base : Nat} {e : TypeId} {size n : Nat} {v : Value} {xs : List Value} (h : w.ownsRow base e size v n xs) (hb : ∀ b, base ≤ b → b < w.heap.size → w'.heap[b]? = w.heap[b]?) : w'.ownsRow base e size v n xs := by
  obtain ⟨h1, h2 | ⟨g, cap, cur, h3, h4, h5, h6⟩⟩ := h
  · exact ⟨h1, .inl h2⟩
  · exact ⟨h1, .inr ⟨g, cap, cur, h3, h4, (hb g h4 (Array.getElem?_eq_some_iff.1 h5).1).trans h5, h6⟩⟩
/-- Two rows whose element types differ never share a block. -/
theorem own_own_ne {w : World} {b b' : Nat} {e e' : TypeId} {s s' n n' : Nat} {v v' : Value} {xs xs' : List Value} (h : w.ownsRow b e s v n xs) (h' : w.ownsRow b' e' s' v' n' xs') (hne : e ≠ e') : v.ownBlock = none ∨ v.ownBlock ≠ v'.ownBlock := by
  rcases h.2 with ⟨rfl, _⟩ | ⟨g, cap, cur, rfl, _, hh, _⟩
  · exact .inl rfl
  · refine .inr ?_
    rcases h'.2 with ⟨rfl, _⟩ | ⟨g', cap', cur', rfl, _, hh', _⟩
    · simp [Value.ownBlock]
    · intro he
      have : g = g' := by simpa [Value.ownBlock] using he
      subst this
      rw [hh] at hh'; injection hh' with hh'; injection hh' with _ ht
      exact hne ht
theorem own_mono {w : World} {b b' : Nat} {e : TypeId} {s n : Nat} {v : Value} {xs : List Value} (h : w.ownsRow b e s v n xs) (hb : b' ≤ b) : w.ownsRow b' e s v n xs := by
  obtain ⟨h1, h2 | ⟨g, cap, cur, h3, h4, h5⟩⟩ := h
  · exact ⟨h1, .inl h2⟩
  · exact ⟨h1, .inr ⟨g, cap, cur, h3, Nat.le_trans hb h4, h5⟩⟩

theorem grown_setCell (w : World) (p : Addr) (u : Value) : w.grownBy (w.setCell p u) (some p.block) :=
  ⟨rfl, rfl, rfl, by simp [World.setCell], fun k _ hne => Below.heap_setCell _ _ _ _ (fun e => hne (by rw [e]))⟩
/-- A row (elements of type e1) of rows (elements of type e0). -/
def OwnM (w : World) (base : Nat) (e1 e0 : TypeId) (v : Value) (gs : List (List Value)) : Prop :=
  ∃ vs : List Value, w.ownsRow base e1 1 v gs.length vs ∧ vs.length = gs.length ∧ ∀ (k : Nat) (hk : k < gs.length), ∃ u, vs[k]? = some u ∧ w.ownsRow base e0 1 u gs[k].length gs[k]

section
variable {w w' : World} {base : Nat} {e1 e0 : TypeId} {v : Value} {gs : List (List Value)}
theorem OwnM.nil_ (w : World) (base : Nat) (e1 e0 : TypeId) : OwnM w base e1 e0 (.slice none 0 0) [] := ⟨[], World.ownsRow_nil _ _ _ _, rfl, fun k hk => absurd hk (by simp)⟩
theorem OwnM.below (h : OwnM w base e1 e0 v gs) (hb : Below w.heap.size w w') : OwnM w' base e1 e0 v gs := by
  obtain ⟨vs, h1, h2, h3⟩ := h
  refine ⟨vs, own_below h1 hb, h2, fun k hk => ?_⟩
  obtain ⟨u, hu, ho⟩ := h3 k hk
  exact ⟨u, hu, own_below ho hb⟩
theorem OwnM.alloc (h : OwnM w base e1 e0 v gs) (o : Obj) : OwnM (w.alloc o) base e1 e0 v gs := h.below ((Below.refl _ _).alloc (Nat.le_refl _) o)
theorem OwnM.mono {b' : Nat} (h : OwnM w base e1 e0 v gs) (hb : b' ≤ base) : OwnM w b' e1 e0 v gs := by
  obtain ⟨vs, h1, h2, h3⟩ := h
  refine ⟨vs, own_mono h1 hb, h2, fun k hk => ?_⟩
  obtain ⟨u, hu, ho⟩ := h3 k hk
  exact ⟨u, hu, own_mono ho hb⟩
/-- A write to a block of another element type. -/
theorem OwnM.other {r : Nat} {cs : Array Value} {t : TypeId} (h : OwnM w base e1 e0 v gs) (hg : w.grownBy w' (some r)) (hr : Blk w r t cs) (h1 : e1 ≠ t) (h0 : e0 ≠ t) : OwnM w' base e1 e0 v gs := by
  obtain ⟨vs, h1', h2, h3⟩ := h
  refine ⟨vs, h1'.kept hg (.inr (own_blk_ne h1' hr h1)), h2, fun k hk => ?_⟩
  obtain ⟨u, hu, ho⟩ := h3 k hk
  exact ⟨u, hu, ho.kept hg (.inr (own_blk_ne ho hr h0))⟩
/-- A write below the base. -/
theorem OwnM.low {row : Option Nat} (h : OwnM w base e1 e0 v gs) (hg : w.grownBy w' row) (hr : ∀ r, row = some r → r < base) : OwnM w' base e1 e0 v gs := by
  obtain ⟨vs, h1', h2, h3⟩ := h
  have ne : ∀ {u : Value} {e n xs}, w.ownsRow base e 1 u n xs → u.ownBlock = none ∨ u.ownBlock ≠ row := fun {u e n xs} hu => by
    cases hb : u.ownBlock with
    | none => exact .inl rfl
    | some k => exact .inr (fun e => by have := hr k e.symm; have := (hu.lt k hb).1; omega)
  refine ⟨vs, h1'.kept hg (ne h1'), h2, fun k hk => ?_⟩
  obtain ⟨u, hu, ho⟩ := h3 k hk
  exact ⟨u, hu, ho.kept hg (ne ho)⟩
/-- Behind an append of one row. -/
theorem OwnM.push {u v' : Value} {xs : List Value} (h : OwnM w base e1 e0 v gs) (hne : e0 ≠ e1) (hu : w.ownsRow base e0 1 u xs.length xs)
    {n : Nat} {vs : List Value} (hv : w.ownsRow base e1 1 v n vs) (hg : w.grownBy w' v.ownBlock) (hown : w'.ownsRow base e1 1 v' (n + 1) (vs ++ [u])) : OwnM w' base e1 e0 v' (gs ++ [xs]) := by
  obtain ⟨vs0, h1, h2, h3⟩ := h
  obtain ⟨rfl, rfl⟩ : n = gs.length ∧ vs = vs0 := by
    have a := h1.1; have b := hv.1
    rcases h1.2 with ⟨e, hz⟩ | ⟨g, cap, cur, e, _, hh, _, _, _, ht⟩
    · subst e
      rcases hv.2 with ⟨_, hz'⟩ | ⟨g', cap', cur', e', _⟩
      · subst hz'; rw [hz] at a ⊢; simp at a b; exact ⟨rfl, by rw [a, b]⟩
      · cases e'
    · subst e
      rcases hv.2 with ⟨e', _⟩ | ⟨g', cap', cur', e', _, hh', _, _, _, ht'⟩
      · cases e'
      · injection e' with e1' e2' e3'
        injection e1' with e1'
        injection e1' with e1'
        subst e1'
        rw [hh] at hh'; injection hh' with hh'; injection hh' with hh'
        subst hh' 
        rw [← e2'] at ht' ⊢
        exact ⟨rfl, by rw [← ht, ← ht']⟩
  refine ⟨vs ++ [u], by simpa using hown, by simp [h2], fun k hk => ?_⟩
  by_cases hlt : k < gs.length
  · obtain ⟨u', hu', ho⟩ := h3 k hlt
    refine ⟨u', by rw [List.getElem?_append_left (by omega)]; exact hu', ?_⟩
    rw [List.getElem_append_left hlt]
    exact ho.kept hg (own_own_ne ho hv hne)
  · simp at hk
    obtain rfl : k = gs.length := by omega
    refine ⟨u, by rw [← h2]; simp, ?_⟩
    rw [List.getElem_append_right (by omega)]
    simp only [Nat.sub_self, List.getElem_cons_zero]
    exact hu.kept hg (own_own_ne hu hv hne)
/-- What a reader of one row meets. -/
theorem OwnM.at_ (h : OwnM w base e1 e0 v gs) {k : Nat} (hk : k < gs.length) :
    ∃ (g c : Nat) (u : Value), v = .slice (some ⟨g, 0, none⟩) gs.length c ∧ w.cell? ⟨g, k, none⟩ = some u ∧ w.ownsRow base e0 1 u gs[k].length gs[k] := by
  obtain ⟨vs, h1, h2, h3⟩ := h
  obtain ⟨u, hu, ho⟩ := h3 k hk
  obtain ⟨g, c, hv, _, _⟩ := h1.form (by omega)
  subst hv
  exact ⟨g, c, u, rfl, by rw [h1.cellAt k (by omega)]; exact hu, ho⟩
theorem OwnM.form (h : OwnM w base e1 e0 v gs) : ∃ A c, v = .slice A gs.length c ∧ gs.length ≤ c ∧ c ≤ maxLen := by
  obtain ⟨vs, h1, _⟩ := h
  exact ownsRow_form h1
end
end Go.Proofs.YtohggdfplmlinaaGreatDoor
namespace Go.Proofs.YtohggdfplmlinaaGreatDoor
open Go.RowKit Go.Lib

theorem own_empty0 (w : World) (t : TypeId) (k : Nat) : (w.alloc (.cells #[] t)).ownsRow w.heap.size t k (.slice (some ⟨w.heap.size, 0, none⟩) 0 0) 0 [] :=
  ⟨by simp, .inr ⟨w.heap.size, 0, #[], rfl, Nat.le_refl _, heap_alloc_new w _, by omega, by omega, by simp, by simp⟩⟩
abbrev strC (s : ByteArray) : List Value := [.string s]
abbrev namC (x : Nam) : List Value := [.string x.1, .int .u32 x.2.1, .int .u32 x.2.2]
abbrev namV (x : Nam) : Value := .agg #[.string x.1, .int .u32 x.2.1, .int .u32 x.2.2]
abbrev markC (m : Mk) : List Value := [.string m.text, .int .u32 m.clear, .int .u32 m.set.1, .int .u32 m.set.2]
abbrev markV (m : Mk) : Value := .agg #[.string m.text, .int .u32 m.clear, .int .u32 m.set.1, .int .u32 m.set.2]
theorem namC_one (L : List Nam) : ∀ u ∈ L.flatMap namC, u.oneCell' = true := fun u hu => by
  obtain ⟨x, _, hx⟩ := List.mem_flatMap.1 hu
  simp only [List.mem_cons, List.not_mem_nil, or_false] at hx
  rcases hx with rfl | rfl | rfl <;> rfl
theorem markC_one (L : List Mk) : ∀ u ∈ L.flatMap markC, u.oneCell' = true := fun u hu => by
  obtain ⟨x, _, hx⟩ := List.mem_flatMap.1 hu
  simp only [List.mem_cons, List.not_mem_nil, or_false] at hx
  rcases hx with rfl | rfl | rfl | rfl <;> rfl
theorem strC_one (L : List ByteArray) : ∀ u ∈ L.map Value.string, u.oneCell' = true := fun u hu => by
  obtain ⟨x, _, rfl⟩ := List.mem_map.1 hu
  rfl
set_option maxRecDepth 20000 in
set_option maxHeartbeats 1000000 in
theorem cloneS_any (A : Option Addr) (n c : Nat) (xs : List Value) (w : World) (K : Nat) (hr : Reads w K 1 A n xs) (h1 : ∀ u ∈ xs, u.oneCell' = true) (hK : K ≤ w.heap.size) (hn : n ≤ 100000) :
    Calls Tryz.prog 47 #[.slice A n c] w fun e w' => ∃ v, e = .returned v ∧ w'.ownsRow w.heap.size 9 1 v n xs ∧ Below w.heap.size w w' := by
  obtain ⟨i0, hi, hz0, hz1, hz2⟩ := info_parts (show (Tryz.prog.info? 9).map (fun i => (i.zero, i.size, i.bytes)) = some (some (.string ByteArray.empty), 1, 16) by kernel_rfl)
  have hl := hr.1
  have hnil := fun (W : World) (a : Option Addr) (n c : Nat) => Lib.run_eql_slice_nil (P := Tryz.prog) W 22 9 a n c 0 0 Tryz.underlying22
  rcases A with _ | ad
  · have h0 : n = 0 := by
      rcases Nat.eq_zero_or_pos n with h | h
      · exact h
      · obtain ⟨_, h', _⟩ := hr.2 h; cases h'
    subst h0
    obtain rfl : xs = [] := List.eq_nil_of_length_eq_zero (by omega)
    clear hl
    go_enter Tryz.func47, Tryz.ntmps47
    go_wp2
    go_ret
    exact ⟨_, rfl, World.ownsRow_nil _ _ _ _, Below.refl _ _⟩
  · have hown := own_empty0 w 9 1
    have hr' := (hr.more hK).alloc (Nat.le_refl _) (.cells #[] 9)
    clear hl
    go_enter Tryz.func47, Tryz.ntmps47
    go_wp2_with (at_builtin; refine wpList_append_any _ rfl _ _ _ rfl w.heap.size 9 i0 (.string ByteArray.empty) 1 16 Tryz.underlying22 hi hz0 hz1 hz2 rfl (by decide) _ _ _ rfl hown w.heap.size _ _ _ xs rfl hr' h1 (by unfold maxLen; omega) (by omega) (by simp) ?_; intro v' w1 hown' hgrow _)
    have hb1 : Below w.heap.size w w1 := ((Below.refl _ w).alloc (Nat.le_refl _) _).grown hgrow (by simp) (fun g hg => (hown.lt g hg).1)
    clear hgrow
    go_ret
    exact ⟨_, rfl, by simpa using hown', hb1⟩
set_option maxRecDepth 20000 in
set_option maxHeartbeats 1000000 in
theorem cloneN_any (A : Option Addr) (n c : Nat) (xs : List Value) (w : World) (K : Nat) (hr : Reads w K 3 A n xs) (h1 : ∀ u ∈ xs, u.oneCell' = true) (hK : K ≤ w.heap.size) (hn : n ≤ 100000) :
    Calls Tryz.prog 71 #[.slice A n c] w fun e w' => ∃ v, e = .returned v ∧ w'.ownsRow w.heap.size 60 3 v n xs ∧ Below w.heap.size w w' := by
  obtain ⟨i0, hi, hz0, hz1, hz2⟩ := info_parts (show (Tryz.prog.info? 60).map (fun i => (i.zero, i.size, i.bytes)) = some (some (.agg #[.string ByteArray.empty, .int .u32 0, .int .u32 0]), 3, 24) by kernel_rfl)
  have hl := hr.1
  have hnil := fun (W : World) (a : Option Addr) (n c : Nat) => Lib.run_eql_slice_nil (P := Tryz.prog) W 23 60 a n c 0 0 Tryz.underlying23
  rcases A with _ | ad
  · have h0 : n = 0 := by
      rcases Nat.eq_zero_or_pos n with h | h
      · exact h
      · obtain ⟨_, h', _⟩ := hr.2 h; cases h'
    subst h0
    obtain rfl : xs = [] := List.eq_nil_of_length_eq_zero (by omega)
    clear hl
    go_enter Tryz.func71, Tryz.ntmps71
    go_wp2
    go_ret
    exact ⟨_, rfl, World.ownsRow_nil _ _ _ _, Below.refl _ _⟩
  · have hown := own_empty0 w 60 3
    have hr' := (hr.more hK).alloc (Nat.le_refl _) (.cells #[] 60)
    clear hl
    go_enter Tryz.func71, Tryz.ntmps71
    go_wp2_with (at_builtin; refine wpList_append_any _ rfl _ _ _ rfl w.heap.size 60 i0 (.agg #[.string ByteArray.empty, .int .u32 0, .int .u32 0]) 3 24 Tryz.underlying23 hi hz0 hz1 hz2 rfl (by decide) _ _ _ rfl hown w.heap.size _ _ _ xs rfl hr' h1 (by unfold maxLen; omega) (by omega) (by simp) ?_; intro v' w1 hown' hgrow _)
    have hb1 : Below w.heap.size w w1 := ((Below.refl _ w).alloc (Nat.le_refl _) _).grown hgrow (by simp) (fun g hg => (hown.lt g hg).1)
    clear hgrow
    go_ret
    exact ⟨_, rfl, by simpa using hown', hb1⟩
set_option maxRecDepth 20000 in
set_option maxHeartbeats 1000000 in
theorem cloneM_any (A : Option Addr) (n c : Nat) (xs : List Value) (w : World) (K : Nat) (hr : Reads w K 4 A n xs) (h1 : ∀ u ∈ xs, u.oneCell' = true) (hK : K ≤ w.heap.size) (hn : n ≤ 100000) :
    Calls Tryz.prog 58 #[.slice A n c] w fun e w' => ∃ v, e = .returned v ∧ w'.ownsRow w.heap.size 83 4 v n xs ∧ Below w.heap.size w w' := by
  obtain ⟨i0, hi, hz0, hz1, hz2⟩ := info_parts (show (Tryz.prog.info? 83).map (fun i => (i.zero, i.size, i.bytes)) = some (some (.agg #[.string ByteArray.empty, .int .u32 0, .int .u32 0, .int .u32 0]), 4, 32) by kernel_rfl)
  have hl := hr.1
  have hnil := fun (W : World) (a : Option Addr) (n c : Nat) => Lib.run_eql_slice_nil (P := Tryz.prog) W 24 83 a n c 0 0 Tryz.underlying24
  rcases A with _ | ad
  · have h0 : n = 0 := by
      rcases Nat.eq_zero_or_pos n with h | h
      · exact h
      · obtain ⟨_, h', _⟩ := hr.2 h; cases h'
    subst h0
    obtain rfl : xs = [] := List.eq_nil_of_length_eq_zero (by omega)
    clear hl
    go_enter Tryz.func58, Tryz.ntmps58
    go_wp2
    go_ret
    exact ⟨_, rfl, World.ownsRow_nil _ _ _ _, Below.refl _ _⟩
  · have hown := own_empty0 w 83 4
    have hr' := (hr.more hK).alloc (Nat.le_refl _) (.cells #[] 83)
    clear hl
    go_enter Tryz.func58, Tryz.ntmps58
    go_wp2_with (at_builtin; refine wpList_append_any _ rfl _ _ _ rfl w.heap.size 83 i0 (.agg #[.string ByteArray.empty, .int .u32 0, .int .u32 0, .int .u32 0]) 4 32 Tryz.underlying24 hi hz0 hz1 hz2 rfl (by decide) _ _ _ rfl hown w.heap.size _ _ _ xs rfl hr' h1 (by unfold maxLen; omega) (by omega) (by simp) ?_; intro v' w1 hown' hgrow _)
    have hb1 : Below w.heap.size w w1 := ((Below.refl _ w).alloc (Nat.le_refl _) _).grown hgrow (by simp) (fun g hg => (hown.lt g hg).1)
    clear hgrow
    go_ret
    exact ⟨_, rfl, by simpa using hown', hb1⟩
/-- What the map of the symbols says. -/
def SymOf (L : List Nam) (f : ByteArray → Option Int) : Prop := ∀ s, (f s).isSome = hasSym L (bs s) ∧ ∀ i, f s = some i → ∃ (k : Nat) (x : Nam), i = k ∧ L[k]? = some x ∧ x.1 = s ∧ soundOf L (bs s) = x.2
def ValOf (L : List Nam) (f : Snd → Option Int) : Prop := ∀ s, (f s).isSome = hasVal L s
/-- What holds of every inventory that New and Add made. -/
structure InvOk (fs : List ByteArray) (L : List Nam) : Prop where
  f24 : fs.length ≤ 24
  feat : ∀ s ∈ fs, s.size ≤ 16
  l256 : L.length ≤ 256
  sym : ∀ x ∈ L, okSym x.1 = true ∧ belongs fs.length x.2 = true ∧ ok32 x.2
  nd : (L.map fun x => bs x.1).Nodup
/-- An inventory in memory, in blocks of S. -/
def InvM (w : World) (S : Nat → Prop) (g : Nat) (fs : List ByteArray) (L : List Nam) : Prop := ∃ A c v b1 b2 b3 f1 f2 f3,
  (Blk w g 92 #[.slice A fs.length c, .map (some b1), v, .map (some b2), .map (some b3)] ∧ S g) ∧
  (w.ownsRow 0 9 1 (.slice A fs.length c) fs.length (fs.map Value.string) ∧ ∀ b, (Value.slice A fs.length c).ownBlock = some b → S b) ∧
  (w.ownsRow 0 60 3 v L.length (L.flatMap namC) ∧ ∀ b, v.ownBlock = some b → S b) ∧
  (MapSI w b1 fs.length f1 ∧ S b1) ∧ (MapSI w b2 L.length f2 ∧ S b2 ∧ SymOf L f2) ∧ (MapKI w b3 L.length f3 ∧ S b3 ∧ ValOf L f3) ∧ (b1 ≠ b2 ∧ b1 ≠ b3 ∧ b2 ≠ b3) ∧ InvOk fs L
theorem MapSI.chgS {S : Nat → Prop} {w w' : World} {b n : Nat} {f : ByteArray → Option Int} (h : MapSI w b n f) (hc : ChgS S w w') (hb : ¬ S b) : MapSI w' b n f := by
  obtain ⟨D, ⟨es, clock, h1, h3⟩, h2⟩ := h
  exact ⟨D, ⟨es, clock, (hc.block b (Array.getElem?_eq_some_iff.1 h1).1 hb).trans h1, h3⟩, h2⟩
theorem InvM.lt {w : World} {S : Nat → Prop} {g : Nat} {fs : List ByteArray} {L : List Nam} (h : InvM w S g fs L) : g < w.heap.size ∧ S g := by
  obtain ⟨A, c, v, b1, b2, b3, f1, f2, f3, ⟨h1, h2⟩, _⟩ := h
  exact ⟨h1.lt, h2⟩
theorem InvM.ok {w : World} {S : Nat → Prop} {g : Nat} {fs : List ByteArray} {L : List Nam} (h : InvM w S g fs L) : InvOk fs L := by
  obtain ⟨A, c, v, b1, b2, b3, f1, f2, f3, _, _, _, _, _, _, _, h⟩ := h
  exact h
theorem InvM.mono {w : World} {S T : Nat → Prop} {g : Nat} {fs : List ByteArray} {L : List Nam} (h : InvM w S g fs L) (hs : ∀ b, S b → T b) : InvM w T g fs L := by
  obtain ⟨A, c, v, b1, b2, b3, f1, f2, f3, ⟨h1, h2⟩, ⟨h3, h4⟩, ⟨h5, h6⟩, ⟨h7, h8⟩, ⟨h9, h10, h11⟩, ⟨h12, h13, h14⟩, h15, h16⟩ := h
  exact ⟨A, c, v, b1, b2, b3, f1, f2, f3, ⟨h1, hs _ h2⟩, ⟨h3, fun b hb => hs _ (h4 b hb)⟩, ⟨h5, fun b hb => hs _ (h6 b hb)⟩, ⟨h7, hs _ h8⟩, ⟨h9, hs _ h10, h11⟩, ⟨h12, hs _ h13, h14⟩, h15, h16⟩
theorem InvM.chg {w w' : World} {S T : Nat → Prop} {g : Nat} {fs : List ByteArray} {L : List Nam} (h : InvM w S g fs L) (hc : ChgS T w w') (ht : ∀ b, S b → ¬ T b) : InvM w' S g fs L := by
  obtain ⟨A, c, v, b1, b2, b3, f1, f2, f3, ⟨h1, h2⟩, ⟨h3, h4⟩, ⟨h5, h6⟩, ⟨h7, h8⟩, ⟨h9, h10, h11⟩, ⟨h12, h13, h14⟩, h15, h16⟩ := h
  exact ⟨A, c, v, b1, b2, b3, f1, f2, f3, ⟨h1.chgS hc (ht _ h2), h2⟩, ⟨own_chgS h3 hc (fun k hk => ht _ (h4 k hk)), h4⟩, ⟨own_chgS h5 hc (fun k hk => ht _ (h6 k hk)), h6⟩, ⟨h7.chgS hc (ht _ h8), h8⟩, ⟨h9.chgS hc (ht _ h10), h10, h11⟩, ⟨h12.chgS hc (ht _ h13), h13, h14⟩, h15, h16⟩
theorem InvM.below {w w' : World} {S : Nat → Prop} {g : Nat} {fs : List ByteArray} {L : List Nam} (h : InvM w S g fs L) (hb : Below w.heap.size w w') : InvM w' S g fs L :=
  h.chg (T := fun _ => False) (.of_below hb) (fun _ _ h => h)
theorem nam_cells {w : World} {B n i : Nat} {A : Option Addr} {l : List Nam} (h : Reads w B 3 A n (l.flatMap namC)) (hi : i < l.length) :
    ∃ ad, A = some ad ∧ ad.block < B ∧ w.cell? (ad.add (i * 3)) = some (.string l[i].1) ∧ w.cell? ⟨(ad.add (i * 3)).block, (ad.add (i * 3)).off + 1, none⟩ = some (.int .u32 l[i].2.1) ∧ w.cell? ⟨(ad.add (i * 3)).block, (ad.add (i * 3)).off + 2, none⟩ = some (.int .u32 l[i].2.2) := by
  obtain ⟨ad, e, hb, hc⟩ := h.row (fun _ => rfl) (by decide) hi
  exact ⟨ad, e, hb, hc 0 _ rfl, by rw [← add_next ad (i * 3) 0]; exact hc 1 _ rfl, by rw [← add_next ad (i * 3) 1]; exact hc 2 _ rfl⟩
theorem mark_cells {w : World} {B n i : Nat} {A : Option Addr} {l : List Mk} (h : Reads w B 4 A n (l.flatMap markC)) (hi : i < l.length) :
    ∃ ad, A = some ad ∧ ad.block < B ∧ w.cell? (ad.add (i * 4)) = some (.string l[i].text) ∧ w.cell? ⟨(ad.add (i * 4)).block, (ad.add (i * 4)).off + 1, none⟩ = some (.int .u32 l[i].clear) ∧ w.cell? ⟨(ad.add (i * 4)).block, (ad.add (i * 4)).off + 2, none⟩ = some (.int .u32 l[i].set.1) ∧ w.cell? ⟨(ad.add (i * 4)).block, (ad.add (i * 4)).off + 3, none⟩ = some (.int .u32 l[i].set.2) := by
  obtain ⟨ad, e, hb, hc⟩ := h.row (fun _ => rfl) (by decide) hi
  exact ⟨ad, e, hb, hc 0 _ rfl, by rw [← add_next ad (i * 4) 0]; exact hc 1 _ rfl, by rw [← add_next ad (i * 4) 1]; exact hc 2 _ rfl, by rw [← add_next ad (i * 4) 2]; exact hc 3 _ rfl⟩
/-- The parts of an inventory, as they are read. -/
theorem InvM.parts {w : World} {S : Nat → Prop} {g : Nat} {fs : List ByteArray} {L : List Nam} (h : InvM w S g fs L) : ∃ A c A2 c2 b1 b2 b3 f2 f3,
    Blk w g 92 #[.slice A fs.length c, .map (some b1), .slice A2 L.length c2, .map (some b2), .map (some b3)] ∧ Reads w w.heap.size 1 A fs.length (fs.map Value.string) ∧ Reads w w.heap.size 3 A2 L.length (L.flatMap namC) ∧ (fs.length ≤ c ∧ c ≤ maxLen ∧ L.length ≤ c2 ∧ c2 ≤ maxLen) ∧
    MapSI w b2 L.length f2 ∧ SymOf L f2 ∧ MapKI w b3 L.length f3 ∧ ValOf L f3 := by
  obtain ⟨A, c, v, b1, b2, b3, f1, f2, f3, ⟨h1, h2⟩, ⟨h3, h4⟩, ⟨h5, h6⟩, ⟨h7, h8⟩, ⟨h9, h10, h11⟩, ⟨h12, h13, h14⟩, h15, h16⟩ := h
  obtain ⟨A2, c2, rfl, e1, e2⟩ := ownsRow_form h5
  obtain ⟨A3, c3, e3, e4, e5⟩ := ownsRow_form h3
  simp only [Value.slice.injEq, true_and] at e3
  obtain ⟨rfl, rfl⟩ := e3
  exact ⟨A, c, A2, c2, b1, b2, b3, f2, f3, h1, Reads.of_own h3, Reads.of_own h5, ⟨e4, e5, e1, e2⟩, h9, h11, h12, h14⟩
set_option maxRecDepth 20000 in
theorem made_any {w : World} {S : Nat → Prop} {g : Nat} {fs : List ByteArray} {L : List Nam} (h : InvM w S g fs L) : Calls Tryz.prog 48 #[wptr g] w fun e w' => e = .returned (.bool true) ∧ w = w' := by
  obtain ⟨A, c, A2, c2, b1, b2, b3, f2, f3, h1, -⟩ := h.parts
  have c1 := h1.cell 1
  simp only [List.getElem?_toArray, List.getElem?_cons_zero, List.getElem?_cons_succ] at c1
  have hnil := fun (W : World) (r : Option Nat) => run_neq_map_nil (P := Tryz.prog) W 89 9 3 r Tryz.underlying89
  clear h1 h
  go_enter Tryz.func48, Tryz.ntmps48
  go_wp2
  go_ret
  exact ⟨rfl, rfl⟩
end Go.Proofs.YtohggdfplmlinaaGreatDoor
