/-
  A row of rows that the call made ('OwnM'): how it is kept, read and appended to. Conditions: none.
-/
import Derived.Test.YtmepaeahchiglaaGreatDoorZbac
import Derived.Test.YtmepaeahchiglaaGreatDoorZbaa
import Derived.Test.YtmepaeahchiglaaGreatDoorZbai
import Derived.Deep.QuietTactic
import Derived.BigQuiet
import Derived.Test.YtmepaeahchiglaaGreatDoorZbae
namespace Go.Proofs.YtmepaeahchiglaaGreatDoor
open Go.RowKit

theorem grown_of_below {w w' : World} (h : Below w.heap.size w w') (row : Option Nat) : w.grownBy w' row := ⟨h.os, h.tape, h.output, h.size, fun i hi _ => h.block i hi⟩
theorem own_below {w w' : World} {base : Nat} {e : TypeId} {size n : Nat} {v : Value} {xs : List Value} (h : w.ownsRow base e size v n xs) (hb : Below w.heap.size w w') : w'.ownsRow base e size v n xs :=
  h.kept (grown_of_below hb none) (by
    rcases h.2 with ⟨rfl, _⟩ | ⟨g, cap, cur, rfl, _⟩
    · exact .inl rfl
    · exact .inr (by simp [Value.ownBlock]))
/-- Two rows whose element types differ never share a block. -/
theorem own_own_ne {w : World} {b b' : Nat} {e e' : TypeId} {s s' n n' : Nat} {v v' : Value} {xs xs' : List Value} (h : w.ownsRow b e s v n xs) (h' : w.ownsRow b' e' s' v' n' xs') (hne : e ≠ e') : v.ownBlock = none ∨ v.ownBlock ≠ v'.ownBlock := by
  rcases h.2 with ⟨rfl, _⟩ | ⟨g, cap, cur, rfl, _, hh, _⟩
  · exact .inl rfl
  · refine .inr ?_
    rcases h'.2 with ⟨rfl, _⟩ | ⟨g', cap', cur', rfl, _, hh', _⟩
    · simp [Value.ownBlock]
    · intro he
      have : g = g' := by simpa [Value.ownBlock] using he
      subst this
      rw [hh] at hh'; injection hh' with hh'; injection hh' with _ ht
      exact hne ht
/-- A row (elements of type e1) of rows (elements of type e0). -/
def OwnM (w : World) (base : Nat) (e1 e0 : TypeId) (v : Value) (gs : List (List Value)) : Prop :=
  ∃ vs : List Value, w.ownsRow base e1 1 v gs.length vs ∧ vs.length = gs.length ∧ ∀ (k : Nat) (hk : k < gs.length), ∃ u, vs[k]? = some u ∧ w.ownsRow base e0 1 u gs[k].length gs[k]

section
variable {w w' : World} {base : Nat} {e1 e0 : TypeId} {v : Value} {gs : List (List Value)}
theorem OwnM.below (h : OwnM w base e1 e0 v gs) (hb : Below w.heap.size w w') : OwnM w' base e1 e0 v gs := by
  obtain ⟨vs, h1, h2, h3⟩ := h
  refine ⟨vs, own_below h1 hb, h2, fun k hk => ?_⟩
  obtain ⟨u, hu, ho⟩ := h3 k hk
  exact ⟨u, hu, own_below ho hb⟩
theorem OwnM.alloc (h : OwnM w base e1 e0 v gs) (o : Obj) : OwnM (w.alloc o) base e1 e0 v gs := h.below ((Below.refl _ _).alloc (Nat.le_refl _) o)
theorem OwnM.mono {b' : Nat} (h : OwnM w base e1 e0 v gs) (hb : b' ≤ base) : OwnM w b' e1 e0 v gs := by
  obtain ⟨vs, h1, h2, h3⟩ := h
  refine ⟨vs, own_mono h1 hb, h2, fun k hk => ?_⟩
  obtain ⟨u, hu, ho⟩ := h3 k hk
  exact ⟨u, hu, own_mono ho hb⟩
/-- Behind an append of one row. -/
theorem OwnM.push {u v' : Value} {xs : List Value} (h : OwnM w base e1 e0 v gs) (hne : e0 ≠ e1) (hu : w.ownsRow base e0 1 u xs.length xs)
    {n : Nat} {vs : List Value} (hv : w.ownsRow base e1 1 v n vs) (hg : w.grownBy w' v.ownBlock) (hown : w'.ownsRow base e1 1 v' (n + 1) (vs ++ [u])) : OwnM w' base e1 e0 v' (gs ++ [xs]) := by
  obtain ⟨vs0, h1, h2, h3⟩ := h
  obtain ⟨rfl, rfl⟩ : n = gs.length ∧ vs = vs0 := by
    have a := h1.1; have b := hv.1
    rcases h1.2 with ⟨e, hz⟩ | ⟨g, cap, cur, e, _, hh, _, _, _, ht⟩
    · subst e
      rcases hv.2 with ⟨_, hz'⟩ | ⟨g', cap', cur', e', _⟩
      · subst hz'; rw [hz] at a ⊢; simp at a b; exact ⟨rfl, by rw [a, b]⟩
      · cases e'
    · subst e
      rcases hv.2 with ⟨e', _⟩ | ⟨g', cap', cur', e', _, hh', _, _, _, ht'⟩
      · cases e'
      · injection e' with e1' e2' e3'
        injection e1' with e1'
        injection e1' with e1'
        subst e1'
        rw [hh] at hh'; injection hh' with hh'; injection hh' with hh'
        subst hh' 
        rw [← e2'] at ht' ⊢
        exact ⟨rfl, by rw [← ht, ← ht']⟩
  refine ⟨vs ++ [u], by simpa using hown, by simp [h2], fun k hk => ?_⟩
  by_cases hlt : k < gs.length
  · obtain ⟨u', hu', ho⟩ := h3 k hlt
    refine ⟨u', by rw [List.getElem?_append_left (by omega)]; exact hu', ?_⟩
    rw [List.getElem_append_left hlt]
    exact ho.kept hg (own_own_ne ho hv hne)
  · simp at hk
    obtain rfl : k = gs.length := by omega
    refine ⟨u, by rw [← h2]; simp, ?_⟩
    rw [List.getElem_append_right (by omega)]
    simp only [Nat.sub_self, List.getElem_cons_zero]
    exact hu.kept hg (own_own_ne hu hv hne)
/-- What a reader of one row meets. -/
theorem OwnM.at_ (h : OwnM w base e1 e0 v gs) {k : Nat} (hk : k < gs.length) :
    ∃ (g c : Nat) (u : Value), v = .slice (some ⟨g, 0, none⟩) gs.length c ∧ w.cell? ⟨g, k, none⟩ = some u ∧ w.ownsRow base e0 1 u gs[k].length gs[k] := by
  obtain ⟨vs, h1, h2, h3⟩ := h
  obtain ⟨u, hu, ho⟩ := h3 k hk
  obtain ⟨g, c, hv, _, _⟩ := h1.form (by omega)
  subst hv
  exact ⟨g, c, u, rfl, by rw [h1.cellAt k (by omega)]; exact hu, ho⟩
theorem OwnM.form (h : OwnM w base e1 e0 v gs) : ∃ A c, v = .slice A gs.length c ∧ gs.length ≤ c ∧ c ≤ maxLen := by
  obtain ⟨vs, h1, _⟩ := h
  exact ownsRow_form h1
end
end Go.Proofs.YtmepaeahchiglaaGreatDoor
namespace Go.Proofs.YtmepaeahchiglaaGreatDoor
open Go.RowKit Go.Lib

theorem own_empty04 (w : World) (t : TypeId) (k : Nat) : (w.alloc (.cells #[] t)).ownsRow w.heap.size t k (.slice (some ⟨w.heap.size, 0, none⟩) 0 0) 0 [] :=
  ⟨by simp, .inr ⟨w.heap.size, 0, #[], rfl, Nat.le_refl _, heap_alloc_new w _, by omega, by omega, by simp, by simp⟩⟩
abbrev namC (x : Nam) : List Value := [.string x.1, .int .u32 x.2.1, .int .u32 x.2.2]
abbrev markC (m : Mk) : List Value := [.string m.text, .int .u32 m.clear, .int .u32 m.set.1, .int .u32 m.set.2]
abbrev markV (m : Mk) : Value := .agg #[.string m.text, .int .u32 m.clear, .int .u32 m.set.1, .int .u32 m.set.2]
theorem namC_one (L : List Nam) : ∀ u ∈ L.flatMap namC, u.oneCell' = true := fun u hu => by
  obtain ⟨x, _, hx⟩ := List.mem_flatMap.1 hu
  simp only [List.mem_cons, List.not_mem_nil, or_false] at hx
  rcases hx with rfl | rfl | rfl <;> rfl
theorem markC_one (L : List Mk) : ∀ u ∈ L.flatMap markC, u.oneCell' = true := fun u hu => by
  obtain ⟨x, _, hx⟩ := List.mem_flatMap.1 hu
  simp only [List.mem_cons, List.not_mem_nil, or_false] at hx
  rcases hx with rfl | rfl | rfl | rfl <;> rfl
theorem strC_one (L : List ByteArray) : ∀ u ∈ L.map Value.string, u.oneCell' = true := fun u hu => by
  obtain ⟨x, _, rfl⟩ := List.mem_map.1 hu
  rfl
set_option maxRecDepth 20000 in
set_option maxHeartbeats 1000000 in
theorem cloneS_any (A : Option Addr) (n c : Nat) (xs : List Value) (w : World) (K : Nat) (hr : Reads w K 1 A n xs) (h1 : ∀ u ∈ xs, u.oneCell' = true) (hK : K ≤ w.heap.size) (hn : n ≤ 100000) :
    Calls Tryz.prog 28 #[.slice A n c] w fun e w' => ∃ v, e = .returned v ∧ w'.ownsRow w.heap.size 9 1 v n xs ∧ Below w.heap.size w w' := by
  obtain ⟨i0, hi, hz0, hz1, hz2⟩ := info_parts (show (Tryz.prog.info? 9).map (fun i => (i.zero, i.size, i.bytes)) = some (some (.string ByteArray.empty), 1, 16) by kernel_rfl)
  have hl := hr.1
  have hnil := fun (W : World) (a : Option Addr) (n c : Nat) => Lib.run_eql_slice_nil (P := Tryz.prog) W 22 9 a n c 0 0 Tryz.underlying22
  rcases A with _ | ad
  · have h0 : n = 0 := by
      rcases Nat.eq_zero_or_pos n with h | h
      · exact h
      · obtain ⟨_, h', _⟩ := hr.2 h; cases h'
    subst h0
    obtain rfl : xs = [] := List.eq_nil_of_length_eq_zero (by omega)
    clear hl
    go_enter Tryz.func28, Tryz.ntmps28
    go_wp2
    go_ret
    exact ⟨_, rfl, World.ownsRow_nil _ _ _ _, Below.refl _ _⟩
  · have hown := own_empty04 w 9 1
    have hr' := (hr.more hK).alloc (Nat.le_refl _) (.cells #[] 9)
    clear hl
    go_enter Tryz.func28, Tryz.ntmps28
    go_wp2_with (at_builtin; refine wpList_append_any _ rfl _ _ _ rfl w.heap.size 9 i0 (.string ByteArray.empty) 1 16 Tryz.underlying22 hi hz0 hz1 hz2 rfl (by decide) _ _ _ rfl hown w.heap.size _ _ _ xs rfl hr' h1 (by unfold maxLen; omega) (by omega) (by simp) ?_; intro v' w1 hown' hgrow _)
    have hb1 : Below w.heap.size w w1 := ((Below.refl _ w).alloc (Nat.le_refl _) _).grown hgrow (by simp) (fun g hg => (hown.lt g hg).1)
    clear hgrow
    go_ret
    exact ⟨_, rfl, by simpa using hown', hb1⟩
set_option maxRecDepth 20000 in
set_option maxHeartbeats 1000000 in
theorem cloneN_any (A : Option Addr) (n c : Nat) (xs : List Value) (w : World) (K : Nat) (hr : Reads w K 3 A n xs) (h1 : ∀ u ∈ xs, u.oneCell' = true) (hK : K ≤ w.heap.size) (hn : n ≤ 100000) :
    Calls Tryz.prog 212 #[.slice A n c] w fun e w' => ∃ v, e = .returned v ∧ w'.ownsRow w.heap.size 74 3 v n xs ∧ Below w.heap.size w w' := by
  obtain ⟨i0, hi, hz0, hz1, hz2⟩ := info_parts (show (Tryz.prog.info? 74).map (fun i => (i.zero, i.size, i.bytes)) = some (some (.agg #[.string ByteArray.empty, .int .u32 0, .int .u32 0]), 3, 24) by kernel_rfl)
  have hl := hr.1
  have hnil := fun (W : World) (a : Option Addr) (n c : Nat) => Lib.run_eql_slice_nil (P := Tryz.prog) W 23 74 a n c 0 0 Tryz.underlying23
  rcases A with _ | ad
  · have h0 : n = 0 := by
      rcases Nat.eq_zero_or_pos n with h | h
      · exact h
      · obtain ⟨_, h', _⟩ := hr.2 h; cases h'
    subst h0
    obtain rfl : xs = [] := List.eq_nil_of_length_eq_zero (by omega)
    clear hl
    go_enter Tryz.func212, Tryz.ntmps212
    go_wp2
    go_ret
    exact ⟨_, rfl, World.ownsRow_nil _ _ _ _, Below.refl _ _⟩
  · have hown := own_empty04 w 74 3
    have hr' := (hr.more hK).alloc (Nat.le_refl _) (.cells #[] 74)
    clear hl
    go_enter Tryz.func212, Tryz.ntmps212
    go_wp2_with (at_builtin; refine wpList_append_any _ rfl _ _ _ rfl w.heap.size 74 i0 (.agg #[.string ByteArray.empty, .int .u32 0, .int .u32 0]) 3 24 Tryz.underlying23 hi hz0 hz1 hz2 rfl (by decide) _ _ _ rfl hown w.heap.size _ _ _ xs rfl hr' h1 (by unfold maxLen; omega) (by omega) (by simp) ?_; intro v' w1 hown' hgrow _)
    have hb1 : Below w.heap.size w w1 := ((Below.refl _ w).alloc (Nat.le_refl _) _).grown hgrow (by simp) (fun g hg => (hown.lt g hg).1)
    clear hgrow
    go_ret
    exact ⟨_, rfl, by simpa using hown', hb1⟩
set_option maxRecDepth 20000 in
set_option maxHeartbeats 1000000 in
theorem cloneM_any (A : Option Addr) (n c : Nat) (xs : List Value) (w : World) (K : Nat) (hr : Reads w K 4 A n xs) (h1 : ∀ u ∈ xs, u.oneCell' = true) (hK : K ≤ w.heap.size) (hn : n ≤ 100000) :
    Calls Tryz.prog 176 #[.slice A n c] w fun e w' => ∃ v, e = .returned v ∧ w'.ownsRow w.heap.size 76 4 v n xs ∧ Below w.heap.size w w' := by
  obtain ⟨i0, hi, hz0, hz1, hz2⟩ := info_parts (show (Tryz.prog.info? 76).map (fun i => (i.zero, i.size, i.bytes)) = some (some (.agg #[.string ByteArray.empty, .int .u32 0, .int .u32 0, .int .u32 0]), 4, 32) by kernel_rfl)
  have hl := hr.1
  have hnil := fun (W : World) (a : Option Addr) (n c : Nat) => Lib.run_eql_slice_nil (P := Tryz.prog) W 24 76 a n c 0 0 Tryz.underlying24
  rcases A with _ | ad
  · have h0 : n = 0 := by
      rcases Nat.eq_zero_or_pos n with h | h
      · exact h
      · obtain ⟨_, h', _⟩ := hr.2 h; cases h'
    subst h0
    obtain rfl : xs = [] := List.eq_nil_of_length_eq_zero (by omega)
    clear hl
    go_enter Tryz.func176, Tryz.ntmps176
    go_wp2
    go_ret
    exact ⟨_, rfl, World.ownsRow_nil _ _ _ _, Below.refl _ _⟩
  · have hown := own_empty04 w 76 4
    have hr' := (hr.more hK).alloc (Nat.le_refl _) (.cells #[] 76)
    clear hl
    go_enter Tryz.func176, Tryz.ntmps176
    go_wp2_with (at_builtin; refine wpList_append_any _ rfl _ _ _ rfl w.heap.size 76 i0 (.agg #[.string ByteArray.empty, .int .u32 0, .int .u32 0, .int .u32 0]) 4 32 Tryz.underlying24 hi hz0 hz1 hz2 rfl (by decide) _ _ _ rfl hown w.heap.size _ _ _ xs rfl hr' h1 (by unfold maxLen; omega) (by omega) (by simp) ?_; intro v' w1 hown' hgrow _)
    have hb1 : Below w.heap.size w w1 := ((Below.refl _ w).alloc (Nat.le_refl _) _).grown hgrow (by simp) (fun g hg => (hown.lt g hg).1)
    clear hgrow
    go_ret
    exact ⟨_, rfl, by simpa using hown', hb1⟩
/-- What the map of the symbols says. -/
def SymOf (L : List Nam) (f : ByteArray → Option Int) : Prop := ∀ s, (f s).isSome = hasSym L (bs s) ∧ ∀ i, f s = some i → ∃ (k : Nat) (x : Nam), i = k ∧ L[k]? = some x ∧ x.1 = s ∧ soundOf L (bs s) = x.2
def ValOf (L : List Nam) (f : Snd → Option Int) : Prop := ∀ s, (f s).isSome = hasVal L s
/-- What holds of every inventory that New and Add made. -/
structure InvOk (fs : List ByteArray) (L : List Nam) : Prop where
  f24 : fs.length ≤ 24
  feat : ∀ s ∈ fs, s.size ≤ 16
  l256 : L.length ≤ 256
  sym : ∀ x ∈ L, okSym x.1 = true ∧ belongs fs.length x.2 = true ∧ ok32 x.2
  nd : (L.map fun x => bs x.1).Nodup
/-- An inventory in memory, in blocks of S. -/
def InvM (w : World) (S : Nat → Prop) (g : Nat) (fs : List ByteArray) (L : List Nam) : Prop := ∃ A c v b1 b2 b3 f1 f2 f3,
  (Blk w g 265 #[.slice A fs.length c, .map (some b1), v, .map (some b2), .map (some b3)] ∧ S g) ∧
  (w.ownsRow 0 9 1 (.slice A fs.length c) fs.length (fs.map Value.string) ∧ ∀ b, (Value.slice A fs.length c).ownBlock = some b → S b) ∧
  (w.ownsRow 0 74 3 v L.length (L.flatMap namC) ∧ ∀ b, v.ownBlock = some b → S b) ∧
  (MapSI w b1 fs.length f1 ∧ S b1) ∧ (MapSI w b2 L.length f2 ∧ S b2 ∧ SymOf L f2) ∧ (MapKI w b3 L.length f3 ∧ S b3 ∧ ValOf L f3) ∧ (b1 ≠ b2 ∧ b1 ≠ b3 ∧ b2 ≠ b3) ∧ InvOk fs L
theorem MapSI.chgS {S : Nat → Prop} {w w' : World} {b n : Nat} {f : ByteArray → Option Int} (h : MapSI w b n f) (hc : ChgS S w w') (hb : ¬ S b) : MapSI w' b n f := by
  obtain ⟨D, ⟨es, clock, h1, h3⟩, h2⟩ := h
  exact ⟨D, ⟨es, clock, (hc.block b (Array.getElem?_eq_some_iff.1 h1).1 hb).trans h1, h3⟩, h2⟩
theorem InvM.lt {w : World} {S : Nat → Prop} {g : Nat} {fs : List ByteArray} {L : List Nam} (h : InvM w S g fs L) : g < w.heap.size ∧ S g := by
  obtain ⟨A, c, v, b1, b2, b3, f1, f2, f3, ⟨h1, h2⟩, _⟩ := h
  exact ⟨h1.lt, h2⟩
theorem InvM.ok {w : World} {S : Nat → Prop} {g : Nat} {fs : List ByteArray} {L : List Nam} (h : InvM w S g fs L) : InvOk fs L := by
  obtain ⟨A, c, v, b1, b2, b3, f1, f2, f3, _, _, _, _, _, _, _, h⟩ := h
  exact h
theorem InvM.mono {w : World} {S T : Nat → Prop} {g : Nat} {fs : List ByteArray} {L : List Nam} (h : InvM w S g fs L) (hs : ∀ b, S b → T b) : InvM w T g fs L := by
  obtain ⟨A, c, v, b1, b2, b3, f1, f2, f3, ⟨h1, h2⟩, ⟨h3, h4⟩, ⟨h5, h6⟩, ⟨h7, h8⟩, ⟨h9, h10, h11⟩, ⟨h12, h13, h14⟩, h15, h16⟩ := h
  exact ⟨A, c, v, b1, b2, b3, f1, f2, f3, ⟨h1, hs _ h2⟩, ⟨h3, fun b hb => hs _ (h4 b hb)⟩, ⟨h5, fun b hb => hs _ (h6 b hb)⟩, ⟨h7, hs _ h8⟩, ⟨h9, hs _ h10, h11⟩, ⟨h12, hs _ h13, h14⟩, h15, h16⟩
theorem InvM.chg {w w' : World} {S T : Nat → Prop} {g : Nat} {fs : List ByteArray} {L : List Nam} (h : InvM w S g fs L) (hc : ChgS T w w') (ht : ∀ b, S b → ¬ T b) : InvM w' S g fs L := by
  obtain ⟨A, c, v, b1, b2, b3, f1, f2, f3, ⟨h1, h2⟩, ⟨h3, h4⟩, ⟨h5, h6⟩, ⟨h7, h8⟩, ⟨h9, h10, h11⟩, ⟨h12, h13, h14⟩, h15, h16⟩ := h
  exact ⟨A, c, v, b1, b2, b3, f1, f2, f3, ⟨h1.chgS hc (ht _ h2), h2⟩, ⟨own_chgS h3 hc (fun k hk => ht _ (h4 k hk)), h4⟩, ⟨own_chgS h5 hc (fun k hk => ht _ (h6 k hk)), h6⟩, ⟨h7.chgS hc (ht _ h8), h8⟩, ⟨h9.chgS hc (ht _ h10), h10, h11⟩, ⟨h12.chgS hc (ht _ h13), h13, h14⟩, h15, h16⟩
theorem InvM.below {w w' : World} {S : Nat → Prop} {g : Nat} {fs : List ByteArray} {L : List Nam} (h : InvM w S g fs L) (hb : Below w.heap.size w w') : InvM w' S g fs L :=
  h.chg (T := fun _ => False) (.of_below hb) (fun _ _ h => h)
theorem nam_cells {w : World} {B n i : Nat} {A : Option Addr} {l : List Nam} (h : Reads w B 3 A n (l.flatMap namC)) (hi : i < l.length) :
    ∃ ad, A = some ad ∧ ad.block < B ∧ w.cell? (ad.add (i * 3)) = some (.string l[i].1) ∧ w.cell? ⟨(ad.add (i * 3)).block, (ad.add (i * 3)).off + 1, none⟩ = some (.int .u32 l[i].2.1) ∧ w.cell? ⟨(ad.add (i * 3)).block, (ad.add (i * 3)).off + 2, none⟩ = some (.int .u32 l[i].2.2) := by
  obtain ⟨ad, e, hb, hc⟩ := h.row (fun _ => rfl) (by decide) hi
  exact ⟨ad, e, hb, hc 0 _ rfl, by rw [← add_next ad (i * 3) 0]; exact hc 1 _ rfl, by rw [← add_next ad (i * 3) 1]; exact hc 2 _ rfl⟩
theorem mark_cells {w : World} {B n i : Nat} {A : Option Addr} {l : List Mk} (h : Reads w B 4 A n (l.flatMap markC)) (hi : i < l.length) :
    ∃ ad, A = some ad ∧ ad.block < B ∧ w.cell? (ad.add (i * 4)) = some (.string l[i].text) ∧ w.cell? ⟨(ad.add (i * 4)).block, (ad.add (i * 4)).off + 1, none⟩ = some (.int .u32 l[i].clear) ∧ w.cell? ⟨(ad.add (i * 4)).block, (ad.add (i * 4)).off + 2, none⟩ = some (.int .u32 l[i].set.1) ∧ w.cell? ⟨(ad.add (i * 4)).block, (ad.add (i * 4)).off + 3, none⟩ = some (.int .u32 l[i].set.2) := by
  obtain ⟨ad, e, hb, hc⟩ := h.row (fun _ => rfl) (by decide) hi
  exact ⟨ad, e, hb, hc 0 _ rfl, by rw [← add_next ad (i * 4) 0]; exact hc 1 _ rfl, by rw [← add_next ad (i * 4) 1]; exact hc 2 _ rfl, by rw [← add_next ad (i * 4) 2]; exact hc 3 _ rfl⟩
/-- The parts of an inventory, as they are read. -/
theorem InvM.parts {w : World} {S : Nat → Prop} {g : Nat} {fs : List ByteArray} {L : List Nam} (h : InvM w S g fs L) : ∃ A c A2 c2 b1 b2 b3 f2 f3,
    Blk w g 265 #[.slice A fs.length c, .map (some b1), .slice A2 L.length c2, .map (some b2), .map (some b3)] ∧ Reads w w.heap.size 1 A fs.length (fs.map Value.string) ∧ Reads w w.heap.size 3 A2 L.length (L.flatMap namC) ∧ (fs.length ≤ c ∧ c ≤ maxLen ∧ L.length ≤ c2 ∧ c2 ≤ maxLen) ∧
    MapSI w b2 L.length f2 ∧ SymOf L f2 ∧ MapKI w b3 L.length f3 ∧ ValOf L f3 := by
  obtain ⟨A, c, v, b1, b2, b3, f1, f2, f3, ⟨h1, h2⟩, ⟨h3, h4⟩, ⟨h5, h6⟩, ⟨h7, h8⟩, ⟨h9, h10, h11⟩, ⟨h12, h13, h14⟩, h15, h16⟩ := h
  obtain ⟨A2, c2, rfl, e1, e2⟩ := ownsRow_form h5
  obtain ⟨A3, c3, e3, e4, e5⟩ := ownsRow_form h3
  simp only [Value.slice.injEq, true_and] at e3
  obtain ⟨rfl, rfl⟩ := e3
  exact ⟨A, c, A2, c2, b1, b2, b3, f2, f3, h1, Reads.of_own h3, Reads.of_own h5, ⟨e4, e5, e1, e2⟩, h9, h11, h12, h14⟩
set_option maxRecDepth 20000 in
theorem made_any {w : World} {S : Nat → Prop} {g : Nat} {fs : List ByteArray} {L : List Nam} (h : InvM w S g fs L) : Calls Tryz.prog 208 #[wptr g] w fun e w' => e = .returned (.bool true) ∧ w = w' := by
  obtain ⟨A, c, A2, c2, b1, b2, b3, f2, f3, h1, -⟩ := h.parts
  have c1 := h1.cell 1
  simp only [List.getElem?_toArray, List.getElem?_cons_zero, List.getElem?_cons_succ] at c1
  have hnil := fun (W : World) (r : Option Nat) => run_neq_map_nil (P := Tryz.prog) W 240 9 3 r Tryz.underlying240
  clear h1 h
  go_enter Tryz.func208, Tryz.ntmps208
  go_wp2
  go_ret
  exact ⟨rfl, rfl⟩
end Go.Proofs.YtmepaeahchiglaaGreatDoor
namespace Go.Proofs.YtmepaeahchiglaaGreatDoor
open Go.RowKit Go.Lib

/-! Rows of elements, each with cells of its own. -/
section
variable {α : Type} {P : World → Nat → α → List Value → Prop} {w w' : World} {B B' k : Nat}
def RowsC (P : World → Nat → α → List Value → Prop) (w : World) (B : Nat) : List α → List Value → Prop
  | [], xs => xs = []
  | x :: l, xs => ∃ c1 c2, xs = c1 ++ c2 ∧ P w B x c1 ∧ RowsC P w B l c2
theorem RowsC.imp {P' : World → Nat → α → List Value → Prop} : ∀ {l : List α} {xs : List Value}, RowsC P w B l xs → (∀ x ∈ l, ∀ cs, P w B x cs → P' w' B' x cs) → RowsC P' w' B' l xs
  | [], _, h, _ => h
  | x :: _, _, ⟨c1, c2, e, h1, h2⟩, hi => ⟨c1, c2, e, hi x List.mem_cons_self c1 h1, RowsC.imp h2 fun y hy => hi y (List.mem_cons_of_mem _ hy)⟩
theorem RowsC.len : ∀ {l : List α} {xs : List Value}, RowsC P w B l xs → (∀ x cs, P w B x cs → cs.length = k) → xs.length = l.length * k
  | [], _, h, _ => by subst h; simp
  | x :: l, _, ⟨c1, c2, e, h1, h2⟩, hk => by
    rw [e, List.length_append, hk x c1 h1, RowsC.len h2 hk, List.length_cons, Nat.succ_mul, Nat.add_comm]
theorem RowsC.at_ (hk : ∀ x cs, P w B x cs → cs.length = k) : ∀ {l : List α} {xs : List Value}, RowsC P w B l xs → ∀ (i : Nat) (hi : i < l.length), ∃ cs, P w B l[i] cs ∧ ∀ j u, cs[j]? = some u → xs[i * k + j]? = some u
  | [], _, _, i, hi => absurd hi (Nat.not_lt_zero _)
  | x :: l, _, ⟨c1, c2, e, h1, h2⟩, 0, _ => ⟨c1, h1, fun j u hu => by
    rw [e, Nat.zero_mul, Nat.zero_add, List.getElem?_append_left (List.getElem?_eq_some_iff.1 hu).1]
    exact hu⟩
  | x :: l, _, ⟨c1, c2, e, h1, h2⟩, i + 1, hi => by
    obtain ⟨cs, h3, h4⟩ := RowsC.at_ hk h2 i (Nat.lt_of_succ_lt_succ hi)
    refine ⟨cs, h3, fun j u hu => ?_⟩
    have hl := hk x c1 h1
    rw [e, List.getElem?_append_right (by rw [hl, Nat.succ_mul]; omega), hl, show (i + 1) * k + j - k = i * k + j by rw [Nat.succ_mul]; omega]
    exact h4 j u hu
/-- A slice of such elements. -/
def SlC (P : World → Nat → α → List Value → Prop) (k : Nat) (w : World) (B : Nat) (l : List α) (v : Value) : Prop :=
  ∃ A c xs, v = .slice A l.length c ∧ (l.length ≤ c ∧ c ≤ maxLen) ∧ Reads w B k A l.length xs ∧ RowsC P w B l xs
theorem SlC.imp {P' : World → Nat → α → List Value → Prop} {l : List α} {v : Value} (h : SlC P k w B l v) (hr : ∀ A n xs, Reads w B k A n xs → Reads w' B' k A n xs) (hi : ∀ x ∈ l, ∀ cs, P w B x cs → P' w' B' x cs) : SlC P' k w' B' l v := by
  obtain ⟨A, c, xs, e, h1, h2, h3⟩ := h
  exact ⟨A, c, xs, e, h1, hr _ _ _ h2, h3.imp hi⟩
theorem slC_cells {A : Option Addr} {n c : Nat} {l : List α} (hk : ∀ x cs, P w B x cs → cs.length = k) (h : SlC P k w B l (.slice A n c)) {i : Nat} (hi : i < l.length) :
    ∃ ad cs, A = some ad ∧ ad.block < B ∧ P w B l[i] cs ∧ ∀ j u, cs[j]? = some u → w.cell? (ad.add (i * k + j)) = some u := by
  obtain ⟨A', c', xs, e, h1, h2, h3⟩ := h
  injection e with e1 e2 e3
  subst e1
  obtain ⟨ad, e, hb, hc⟩ := h2.2 (by omega)
  obtain ⟨cs, h4, h5⟩ := h3.at_ hk i hi
  exact ⟨ad, cs, e, hb, h4, fun j u hu => hc _ _ (h5 j u hu)⟩
theorem SlC.len {A : Option Addr} {n c : Nat} {l : List α} (h : SlC P k w B l (.slice A n c)) : n = l.length ∧ n ≤ c ∧ c ≤ maxLen := by
  obtain ⟨A', c', xs, e, h1, h2, h3⟩ := h
  injection e with e1 e2 e3
  subst e1; subst e2; subst e3
  exact ⟨rfl, h1⟩
theorem SlC.form {l : List α} {v : Value} (h : SlC P k w B l v) : ∃ A n c, v = .slice A n c ∧ n = l.length := by
  obtain ⟨A, c, xs, e, _⟩ := h
  exact ⟨A, _, c, e, rfl⟩
end
/-! What a project is made of. -/
abbrev Nd := Int × ByteArray
structure Fm where
  has : Bool
  w : List Snd
structure En where
  gloss : ByteArray
  forms : List Fm
structure Pj where
  feats : List ByteArray
  sounds : List Nam
  marks : List Mk
  tree : List Nd
  laws : List Lw
  on : List (List Int)
  protos : List Fm
  entries : List En
/-! Bytes. -/
def nmdB (x : Nam) : List Nat := textB x.1 ++ sndB x.2
def mkdB (x : Mk) : List Nat := textB x.text ++ (numB x.clear ++ sndB x.set)
def ndB (x : Nd) : List Nat := numB (x.1 + 1).toNat ++ textB x.2
def intB (k : Int) : List Nat := numB k.toNat
def formB (f : Fm) : List Nat := flagB f.has ++ (if f.has then wordB f.w else [])
def enB (x : En) : List Nat := textB x.gloss ++ allB formB x.forms
def projB (p : Pj) : List Nat :=
  allB textB p.feats ++ (allB nmdB p.sounds ++ (allB mkdB p.marks ++ (allB ndB p.tree ++ (allB lawB p.laws ++ (p.on.flatMap (allB intB) ++ (allB formB p.protos ++ allB enB p.entries))))))
/-! Memory. -/
/-- Cells that the element alone tells. -/
def PlainC {α : Type} (f : α → List Value) (_ : World) (_ : Nat) (x : α) (cs : List Value) : Prop := cs = f x
abbrev StrC := PlainC fun s : ByteArray => [Value.string s]
abbrev NmdC := PlainC namC
abbrev MkdC := PlainC markC
abbrev NdC := PlainC fun x : Nd => [Value.int .i64 x.1, Value.string x.2]
abbrev IntC := PlainC fun k : Int => [Value.int .i64 k]
abbrev SndCC := PlainC sndC
theorem rowsC_flat {α : Type} {f : α → List Value} {w : World} {B : Nat} : ∀ {l : List α} {xs : List Value}, RowsC (PlainC f) w B l xs → xs = l.flatMap f
  | [], _, h => h
  | x :: l, _, ⟨c1, c2, e, h1, h2⟩ => by
    rw [e, show c1 = f x from h1, rowsC_flat h2, List.flatMap_cons]
theorem flat_rowsC {α : Type} {f : α → List Value} {w : World} {B : Nat} : ∀ (l : List α), RowsC (PlainC f) w B l (l.flatMap f)
  | [] => rfl
  | x :: l => ⟨f x, l.flatMap f, List.flatMap_cons, rfl, flat_rowsC l⟩
theorem SlC.flat {α : Type} {f : α → List Value} {k : Nat} {w : World} {B : Nat} {l : List α} {v : Value} (h : SlC (PlainC f) k w B l v) : ∃ A c, v = .slice A l.length c ∧ (l.length ≤ c ∧ c ≤ maxLen) ∧ Reads w B k A l.length (l.flatMap f) := by
  obtain ⟨A, c, xs, e, h1, h2, h3⟩ := h
  rw [rowsC_flat h3] at h2
  exact ⟨A, c, e, h1, h2⟩
theorem flatMap_one {α β : Type} (f : α → β) (l : List α) : (l.flatMap fun x => [f x]) = l.map f := by
  induction l with
  | nil => rfl
  | cons x l ih => rw [List.flatMap_cons, ih]; rfl
def OnC (w : World) (B : Nat) (l : List Int) (cs : List Value) : Prop := ∃ v, cs = [v] ∧ SlC IntC 1 w B l v
def FormC (w : World) (B : Nat) (f : Fm) (cs : List Value) : Prop := ∃ v, cs = [.bool f.has, v] ∧ SlC SndCC 2 w B f.w v
def EnC (w : World) (B : Nat) (x : En) (cs : List Value) : Prop := ∃ v, cs = [.string x.gloss, v] ∧ SlC FormC 2 w B x.forms v
def ProjC (w : World) (B : Nat) (p : Pj) (cs : List Value) : Prop := ∃ v1 v2 v3 v4 v5 v6 v7 v8, cs = [v1, v2, v3, v4, v5, v6, v7, v8] ∧
  SlC StrC 1 w B p.feats v1 ∧ SlC NmdC 3 w B p.sounds v2 ∧ SlC MkdC 4 w B p.marks v3 ∧ SlC NdC 2 w B p.tree v4 ∧ SlC LawC 18 w B p.laws v5 ∧ SlC OnC 1 w B p.on v6 ∧ SlC FormC 2 w B p.protos v7 ∧ SlC EnC 2 w B p.entries v8
section
variable {w w' : World} {B : Nat} (hk : ∀ p : Addr, p.block < B → w'.cell? p = w.cell? p)
include hk
theorem SlC.plain {α : Type} {P : World → Nat → α → List Value → Prop} {k : Nat} {l : List α} {v : Value} (h : SlC P k w B l v) (hi : ∀ x cs, P w B x cs → P w' B x cs) : SlC P k w' B l v :=
  h.imp (fun _ _ _ hr => hr.keep hk) fun x _ cs => hi x cs
theorem OnC.keep {l : List Int} {cs : List Value} (h : OnC w B l cs) : OnC w' B l cs := by
  obtain ⟨v, e, h⟩ := h
  exact ⟨v, e, SlC.plain hk h fun _ _ h => h⟩
theorem FormC.keep {f : Fm} {cs : List Value} (h : FormC w B f cs) : FormC w' B f cs := by
  obtain ⟨v, e, h⟩ := h
  exact ⟨v, e, SlC.plain hk h fun _ _ h => h⟩
theorem EnC.keep {x : En} {cs : List Value} (h : EnC w B x cs) : EnC w' B x cs := by
  obtain ⟨v, e, h⟩ := h
  exact ⟨v, e, SlC.plain hk h fun _ _ h => FormC.keep hk h⟩
theorem ProjC.keep {p : Pj} {cs : List Value} (h : ProjC w B p cs) : ProjC w' B p cs := by
  obtain ⟨v1, v2, v3, v4, v5, v6, v7, v8, e, h1, h2, h3, h4, h5, h6, h7, h8⟩ := h
  exact ⟨v1, v2, v3, v4, v5, v6, v7, v8, e, SlC.plain hk h1 fun _ _ h => h, SlC.plain hk h2 fun _ _ h => h, SlC.plain hk h3 fun _ _ h => h, SlC.plain hk h4 fun _ _ h => h, SlC.plain hk h5 fun _ _ h => h.keep hk, SlC.plain hk h6 fun _ _ h => OnC.keep hk h, SlC.plain hk h7 fun _ _ h => FormC.keep hk h, SlC.plain hk h8 fun _ _ h => EnC.keep hk h⟩
end
end Go.Proofs.YtmepaeahchiglaaGreatDoor
