/-
  layer 3: rows cloned; an inventory in memory. Conditions: rows that can be read. (Printed by inv.py.)
-/
import Derived.Test.YtohggdfplmlinaaDoorNtI1
import Derived.Test.YtohggdfplmlinaaDoorMat
import Derived.Deep.QuietTactic
import Derived.BigQuiet
namespace Go.Proofs.YtohggdfplmlinaaDoor
open Go.RowKit Go.Lib

theorem own_empty0 (w : World) (t : TypeId) (k : Nat) : (w.alloc (.cells #[] t)).ownsRow w.heap.size t k (.slice (some ⟨w.heap.size, 0, none⟩) 0 0) 0 [] :=
  ⟨by simp, .inr ⟨w.heap.size, 0, #[], rfl, Nat.le_refl _, heap_alloc_new w _, by omega, by omega, by simp, by simp⟩⟩
abbrev strC (s : ByteArray) : List Value := [.string s]
abbrev namC (x : Nam) : List Value := [.string x.1, .int .u32 x.2.1, .int .u32 x.2.2]
abbrev namV (x : Nam) : Value := .agg #[.string x.1, .int .u32 x.2.1, .int .u32 x.2.2]
abbrev markC (m : Mk) : List Value := [.string m.text, .int .u32 m.clear, .int .u32 m.set.1, .int .u32 m.set.2]
abbrev markV (m : Mk) : Value := .agg #[.string m.text, .int .u32 m.clear, .int .u32 m.set.1, .int .u32 m.set.2]
theorem namC_one (L : List Nam) : ∀ u ∈ L.flatMap namC, u.oneCell' = true := fun u hu => by
  obtain ⟨x, _, hx⟩ := List.mem_flatMap.1 hu
  simp only [List.mem_cons, List.not_mem_nil, or_false] at hx
  rcases hx with rfl | rfl | rfl <;> rfl
theorem markC_one (L : List Mk) : ∀ u ∈ L.flatMap markC, u.oneCell' = true := fun u hu => by
  obtain ⟨x, _, hx⟩ := List.mem_flatMap.1 hu
  simp only [List.mem_cons, List.not_mem_nil, or_false] at hx
  rcases hx with rfl | rfl | rfl | rfl <;> rfl
theorem strC_one (L : List ByteArray) : ∀ u ∈ L.map Value.string, u.oneCell' = true := fun u hu => by
  obtain ⟨x, _, rfl⟩ := List.mem_map.1 hu
  rfl
set_option maxRecDepth 20000 in
set_option maxHeartbeats 1000000 in
theorem cloneS_any (A : Option Addr) (n c : Nat) (xs : List Value) (w : World) (K : Nat) (hr : Reads w K 1 A n xs) (h1 : ∀ u ∈ xs, u.oneCell' = true) (hK : K ≤ w.heap.size) (hn : n ≤ 100000) :
    Calls Tryd.prog 29 #[.slice A n c] w fun e w' => ∃ v, e = .returned v ∧ w'.ownsRow w.heap.size 9 1 v n xs ∧ Below w.heap.size w w' := by
  obtain ⟨i0, hi, hz0, hz1, hz2⟩ := info_parts (show (Tryd.prog.info? 9).map (fun i => (i.zero, i.size, i.bytes)) = some (some (.string ByteArray.empty), 1, 16) by kernel_rfl)
  have hl := hr.1
  have hnil := fun (W : World) (a : Option Addr) (n c : Nat) => Lib.run_eql_slice_nil (P := Tryd.prog) W 22 9 a n c 0 0 Tryd.underlying22
  rcases A with _ | ad
  · have h0 : n = 0 := by
      rcases Nat.eq_zero_or_pos n with h | h
      · exact h
      · obtain ⟨_, h', _⟩ := hr.2 h; cases h'
    subst h0
    obtain rfl : xs = [] := List.eq_nil_of_length_eq_zero (by omega)
    clear hl
    go_enter Tryd.func29, Tryd.ntmps29
    go_wp2
    go_ret
    exact ⟨_, rfl, World.ownsRow_nil _ _ _ _, Below.refl _ _⟩
  · have hown := own_empty0 w 9 1
    have hr' := (hr.more hK).alloc (Nat.le_refl _) (.cells #[] 9)
    clear hl
    go_enter Tryd.func29, Tryd.ntmps29
    go_wp2_with (at_builtin; refine wpList_append_any _ rfl _ _ _ rfl w.heap.size 9 i0 (.string ByteArray.empty) 1 16 Tryd.underlying22 hi hz0 hz1 hz2 rfl (by decide) _ _ _ rfl hown w.heap.size _ _ _ xs rfl hr' h1 (by unfold maxLen; omega) (by omega) (by simp) ?_; intro v' w1 hown' hgrow _)
    have hb1 : Below w.heap.size w w1 := ((Below.refl _ w).alloc (Nat.le_refl _) _).grown hgrow (by simp) (fun g hg => (hown.lt g hg).1)
    clear hgrow
    go_ret
    exact ⟨_, rfl, by simpa using hown', hb1⟩
set_option maxRecDepth 20000 in
set_option maxHeartbeats 1000000 in
theorem cloneN_any (A : Option Addr) (n c : Nat) (xs : List Value) (w : World) (K : Nat) (hr : Reads w K 3 A n xs) (h1 : ∀ u ∈ xs, u.oneCell' = true) (hK : K ≤ w.heap.size) (hn : n ≤ 100000) :
    Calls Tryd.prog 55 #[.slice A n c] w fun e w' => ∃ v, e = .returned v ∧ w'.ownsRow w.heap.size 41 3 v n xs ∧ Below w.heap.size w w' := by
  obtain ⟨i0, hi, hz0, hz1, hz2⟩ := info_parts (show (Tryd.prog.info? 41).map (fun i => (i.zero, i.size, i.bytes)) = some (some (.agg #[.string ByteArray.empty, .int .u32 0, .int .u32 0]), 3, 24) by kernel_rfl)
  have hl := hr.1
  have hnil := fun (W : World) (a : Option Addr) (n c : Nat) => Lib.run_eql_slice_nil (P := Tryd.prog) W 23 41 a n c 0 0 Tryd.underlying23
  rcases A with _ | ad
  · have h0 : n = 0 := by
      rcases Nat.eq_zero_or_pos n with h | h
      · exact h
      · obtain ⟨_, h', _⟩ := hr.2 h; cases h'
    subst h0
    obtain rfl : xs = [] := List.eq_nil_of_length_eq_zero (by omega)
    clear hl
    go_enter Tryd.func55, Tryd.ntmps55
    go_wp2
    go_ret
    exact ⟨_, rfl, World.ownsRow_nil _ _ _ _, Below.refl _ _⟩
  · have hown := own_empty0 w 41 3
    have hr' := (hr.more hK).alloc (Nat.le_refl _) (.cells #[] 41)
    clear hl
    go_enter Tryd.func55, Tryd.ntmps55
    go_wp2_with (at_builtin; refine wpList_append_any _ rfl _ _ _ rfl w.heap.size 41 i0 (.agg #[.string ByteArray.empty, .int .u32 0, .int .u32 0]) 3 24 Tryd.underlying23 hi hz0 hz1 hz2 rfl (by decide) _ _ _ rfl hown w.heap.size _ _ _ xs rfl hr' h1 (by unfold maxLen; omega) (by omega) (by simp) ?_; intro v' w1 hown' hgrow _)
    have hb1 : Below w.heap.size w w1 := ((Below.refl _ w).alloc (Nat.le_refl _) _).grown hgrow (by simp) (fun g hg => (hown.lt g hg).1)
    clear hgrow
    go_ret
    exact ⟨_, rfl, by simpa using hown', hb1⟩
set_option maxRecDepth 20000 in
set_option maxHeartbeats 1000000 in
theorem cloneM_any (A : Option Addr) (n c : Nat) (xs : List Value) (w : World) (K : Nat) (hr : Reads w K 4 A n xs) (h1 : ∀ u ∈ xs, u.oneCell' = true) (hK : K ≤ w.heap.size) (hn : n ≤ 100000) :
    Calls Tryd.prog 40 #[.slice A n c] w fun e w' => ∃ v, e = .returned v ∧ w'.ownsRow w.heap.size 58 4 v n xs ∧ Below w.heap.size w w' := by
  obtain ⟨i0, hi, hz0, hz1, hz2⟩ := info_parts (show (Tryd.prog.info? 58).map (fun i => (i.zero, i.size, i.bytes)) = some (some (.agg #[.string ByteArray.empty, .int .u32 0, .int .u32 0, .int .u32 0]), 4, 32) by kernel_rfl)
  have hl := hr.1
  have hnil := fun (W : World) (a : Option Addr) (n c : Nat) => Lib.run_eql_slice_nil (P := Tryd.prog) W 24 58 a n c 0 0 Tryd.underlying24
  rcases A with _ | ad
  · have h0 : n = 0 := by
      rcases Nat.eq_zero_or_pos n with h | h
      · exact h
      · obtain ⟨_, h', _⟩ := hr.2 h; cases h'
    subst h0
    obtain rfl : xs = [] := List.eq_nil_of_length_eq_zero (by omega)
    clear hl
    go_enter Tryd.func40, Tryd.ntmps40
    go_wp2
    go_ret
    exact ⟨_, rfl, World.ownsRow_nil _ _ _ _, Below.refl _ _⟩
  · have hown := own_empty0 w 58 4
    have hr' := (hr.more hK).alloc (Nat.le_refl _) (.cells #[] 58)
    clear hl
    go_enter Tryd.func40, Tryd.ntmps40
    go_wp2_with (at_builtin; refine wpList_append_any _ rfl _ _ _ rfl w.heap.size 58 i0 (.agg #[.string ByteArray.empty, .int .u32 0, .int .u32 0, .int .u32 0]) 4 32 Tryd.underlying24 hi hz0 hz1 hz2 rfl (by decide) _ _ _ rfl hown w.heap.size _ _ _ xs rfl hr' h1 (by unfold maxLen; omega) (by omega) (by simp) ?_; intro v' w1 hown' hgrow _)
    have hb1 : Below w.heap.size w w1 := ((Below.refl _ w).alloc (Nat.le_refl _) _).grown hgrow (by simp) (fun g hg => (hown.lt g hg).1)
    clear hgrow
    go_ret
    exact ⟨_, rfl, by simpa using hown', hb1⟩
/-- What the map of the symbols says. -/
def SymOf (L : List Nam) (f : ByteArray → Option Int) : Prop := ∀ s, (f s).isSome = hasSym L (bs s) ∧ ∀ i, f s = some i → ∃ (k : Nat) (x : Nam), i = k ∧ L[k]? = some x ∧ x.1 = s ∧ soundOf L (bs s) = x.2
def ValOf (L : List Nam) (f : Snd → Option Int) : Prop := ∀ s, (f s).isSome = hasVal L s
/-- What holds of every inventory that New and Add made. -/
structure InvOk (fs : List ByteArray) (L : List Nam) : Prop where
  f24 : fs.length ≤ 24
  feat : ∀ s ∈ fs, s.size ≤ 16
  l256 : L.length ≤ 256
  sym : ∀ x ∈ L, okSym x.1 = true ∧ belongs fs.length x.2 = true ∧ ok32 x.2
  nd : (L.map fun x => bs x.1).Nodup
/-- An inventory in memory, in blocks of S. -/
def InvM (w : World) (S : Nat → Prop) (g : Nat) (fs : List ByteArray) (L : List Nam) : Prop := ∃ A c v b1 b2 b3 f1 f2 f3,
  (Blk w g 66 #[.slice A fs.length c, .map (some b1), v, .map (some b2), .map (some b3)] ∧ S g) ∧
  (w.ownsRow 0 9 1 (.slice A fs.length c) fs.length (fs.map Value.string) ∧ ∀ b, (Value.slice A fs.length c).ownBlock = some b → S b) ∧
  (w.ownsRow 0 41 3 v L.length (L.flatMap namC) ∧ ∀ b, v.ownBlock = some b → S b) ∧
  (MapSI w b1 fs.length f1 ∧ S b1) ∧ (MapSI w b2 L.length f2 ∧ S b2 ∧ SymOf L f2) ∧ (MapKI w b3 L.length f3 ∧ S b3 ∧ ValOf L f3) ∧ (b1 ≠ b2 ∧ b1 ≠ b3 ∧ b2 ≠ b3) ∧ InvOk fs L
theorem MapSI.chgS {S : Nat → Prop} {w w' : World} {b n : Nat} {f : ByteArray → Option Int} (h : MapSI w b n f) (hc : ChgS S w w') (hb : ¬ S b) : MapSI w' b n f := by
  obtain ⟨D, ⟨es, clock, h1, h3⟩, h2⟩ := h
  exact ⟨D, ⟨es, clock, (hc.block b (Array.getElem?_eq_some_iff.1 h1).1 hb).trans h1, h3⟩, h2⟩
theorem InvM.lt {w : World} {S : Nat → Prop} {g : Nat} {fs : List ByteArray} {L : List Nam} (h : InvM w S g fs L) : g < w.heap.size ∧ S g := by
  obtain ⟨A, c, v, b1, b2, b3, f1, f2, f3, ⟨h1, h2⟩, _⟩ := h
  exact ⟨h1.lt, h2⟩
theorem InvM.ok {w : World} {S : Nat → Prop} {g : Nat} {fs : List ByteArray} {L : List Nam} (h : InvM w S g fs L) : InvOk fs L := by
  obtain ⟨A, c, v, b1, b2, b3, f1, f2, f3, _, _, _, _, _, _, _, h⟩ := h
  exact h
theorem InvM.mono {w : World} {S T : Nat → Prop} {g : Nat} {fs : List ByteArray} {L : List Nam} (h : InvM w S g fs L) (hs : ∀ b, S b → T b) : InvM w T g fs L := by
  obtain ⟨A, c, v, b1, b2, b3, f1, f2, f3, ⟨h1, h2⟩, ⟨h3, h4⟩, ⟨h5, h6⟩, ⟨h7, h8⟩, ⟨h9, h10, h11⟩, ⟨h12, h13, h14⟩, h15, h16⟩ := h
  exact ⟨A, c, v, b1, b2, b3, f1, f2, f3, ⟨h1, hs _ h2⟩, ⟨h3, fun b hb => hs _ (h4 b hb)⟩, ⟨h5, fun b hb => hs _ (h6 b hb)⟩, ⟨h7, hs _ h8⟩, ⟨h9, hs _ h10, h11⟩, ⟨h12, hs _ h13, h14⟩, h15, h16⟩
theorem InvM.chg {w w' : World} {S T : Nat → Prop} {g : Nat} {fs : List ByteArray} {L : List Nam} (h : InvM w S g fs L) (hc : ChgS T w w') (ht : ∀ b, S b → ¬ T b) : InvM w' S g fs L := by
  obtain ⟨A, c, v, b1, b2, b3, f1, f2, f3, ⟨h1, h2⟩, ⟨h3, h4⟩, ⟨h5, h6⟩, ⟨h7, h8⟩, ⟨h9, h10, h11⟩, ⟨h12, h13, h14⟩, h15, h16⟩ := h
  exact ⟨A, c, v, b1, b2, b3, f1, f2, f3, ⟨h1.chgS hc (ht _ h2), h2⟩, ⟨own_chgS h3 hc (fun k hk => ht _ (h4 k hk)), h4⟩, ⟨own_chgS h5 hc (fun k hk => ht _ (h6 k hk)), h6⟩, ⟨h7.chgS hc (ht _ h8), h8⟩, ⟨h9.chgS hc (ht _ h10), h10, h11⟩, ⟨h12.chgS hc (ht _ h13), h13, h14⟩, h15, h16⟩
theorem InvM.below {w w' : World} {S : Nat → Prop} {g : Nat} {fs : List ByteArray} {L : List Nam} (h : InvM w S g fs L) (hb : Below w.heap.size w w') : InvM w' S g fs L :=
  h.chg (T := fun _ => False) (.of_below hb) (fun _ _ h => h)
theorem nam_cells {w : World} {B n i : Nat} {A : Option Addr} {l : List Nam} (h : Reads w B 3 A n (l.flatMap namC)) (hi : i < l.length) :
    ∃ ad, A = some ad ∧ ad.block < B ∧ w.cell? (ad.add (i * 3)) = some (.string l[i].1) ∧ w.cell? ⟨(ad.add (i * 3)).block, (ad.add (i * 3)).off + 1, none⟩ = some (.int .u32 l[i].2.1) ∧ w.cell? ⟨(ad.add (i * 3)).block, (ad.add (i * 3)).off + 2, none⟩ = some (.int .u32 l[i].2.2) := by
  obtain ⟨ad, e, hb, hc⟩ := h.row (fun _ => rfl) (by decide) hi
  exact ⟨ad, e, hb, hc 0 _ rfl, by rw [← add_next ad (i * 3) 0]; exact hc 1 _ rfl, by rw [← add_next ad (i * 3) 1]; exact hc 2 _ rfl⟩
theorem mark_cells {w : World} {B n i : Nat} {A : Option Addr} {l : List Mk} (h : Reads w B 4 A n (l.flatMap markC)) (hi : i < l.length) :
    ∃ ad, A = some ad ∧ ad.block < B ∧ w.cell? (ad.add (i * 4)) = some (.string l[i].text) ∧ w.cell? ⟨(ad.add (i * 4)).block, (ad.add (i * 4)).off + 1, none⟩ = some (.int .u32 l[i].clear) ∧ w.cell? ⟨(ad.add (i * 4)).block, (ad.add (i * 4)).off + 2, none⟩ = some (.int .u32 l[i].set.1) ∧ w.cell? ⟨(ad.add (i * 4)).block, (ad.add (i * 4)).off + 3, none⟩ = some (.int .u32 l[i].set.2) := by
  obtain ⟨ad, e, hb, hc⟩ := h.row (fun _ => rfl) (by decide) hi
  exact ⟨ad, e, hb, hc 0 _ rfl, by rw [← add_next ad (i * 4) 0]; exact hc 1 _ rfl, by rw [← add_next ad (i * 4) 1]; exact hc 2 _ rfl, by rw [← add_next ad (i * 4) 2]; exact hc 3 _ rfl⟩
/-- The parts of an inventory, as they are read. -/
theorem InvM.parts {w : World} {S : Nat → Prop} {g : Nat} {fs : List ByteArray} {L : List Nam} (h : InvM w S g fs L) : ∃ A c A2 c2 b1 b2 b3 f2 f3,
    Blk w g 66 #[.slice A fs.length c, .map (some b1), .slice A2 L.length c2, .map (some b2), .map (some b3)] ∧ Reads w w.heap.size 1 A fs.length (fs.map Value.string) ∧ Reads w w.heap.size 3 A2 L.length (L.flatMap namC) ∧ (fs.length ≤ c ∧ c ≤ maxLen ∧ L.length ≤ c2 ∧ c2 ≤ maxLen) ∧
    MapSI w b2 L.length f2 ∧ SymOf L f2 ∧ MapKI w b3 L.length f3 ∧ ValOf L f3 := by
  obtain ⟨A, c, v, b1, b2, b3, f1, f2, f3, ⟨h1, h2⟩, ⟨h3, h4⟩, ⟨h5, h6⟩, ⟨h7, h8⟩, ⟨h9, h10, h11⟩, ⟨h12, h13, h14⟩, h15, h16⟩ := h
  obtain ⟨A2, c2, rfl, e1, e2⟩ := ownsRow_form h5
  obtain ⟨A3, c3, e3, e4, e5⟩ := ownsRow_form h3
  simp only [Value.slice.injEq, true_and] at e3
  obtain ⟨rfl, rfl⟩ := e3
  exact ⟨A, c, A2, c2, b1, b2, b3, f2, f3, h1, Reads.of_own h3, Reads.of_own h5, ⟨e4, e5, e1, e2⟩, h9, h11, h12, h14⟩
set_option maxRecDepth 20000 in
theorem made_any {w : World} {S : Nat → Prop} {g : Nat} {fs : List ByteArray} {L : List Nam} (h : InvM w S g fs L) : Calls Tryd.prog 30 #[wptr g] w fun e w' => e = .returned (.bool true) ∧ w = w' := by
  obtain ⟨A, c, A2, c2, b1, b2, b3, f2, f3, h1, -⟩ := h.parts
  have c1 := h1.cell 1
  simp only [List.getElem?_toArray, List.getElem?_cons_zero, List.getElem?_cons_succ] at c1
  have hnil := fun (W : World) (r : Option Nat) => run_neq_map_nil (P := Tryd.prog) W 63 9 3 r Tryd.underlying63
  clear h1 h
  go_enter Tryd.func30, Tryd.ntmps30
  go_wp2
  go_ret
  exact ⟨rfl, rfl⟩
end Go.Proofs.YtohggdfplmlinaaDoor
