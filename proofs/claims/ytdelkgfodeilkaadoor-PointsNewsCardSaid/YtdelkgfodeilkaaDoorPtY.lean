/-
  layer 36: the closures of New over a row of ends: is there one at a point; the order of ends. Conditions: rows of the call's own.
-/
import Derived.Test.YtdelkgfodeilkaaDoorPtX
import Derived.Test.YtdelkgfodeilkaaDoorRowK
import Derived.Test.YtdelkgfodeilkaaDoorShelf5
namespace Go.Proofs.YtdelkgfodeilkaaDoor
open Go.RowKit Go.Lib Go.Sort

theorem new1_below {bx : Nat} (A B L : Int) (w : World) (hx : Blk w bx 43 #[.int .i64 A, .int .i64 B, .int .i64 L]) :
    PredBelow Tryd.prog 43 #[.pointer (some ⟨bx, 0, none⟩)] (fun x : Nat × Int => .agg (endV x).toArray) (fun x => ((x.1 : Int) == B)) w := by
  rintro W ⟨xe, xl⟩ hW
  show Calls Tryd.prog 43 #[.agg #[.int .i64 (xe : Int), .int .i64 xl], .pointer (some ⟨bx, 0, none⟩)] W fun e w' => e = .returned (.bool ((xe : Int) == B)) ∧ Below w.heap.size w w'
  have k0 := (Blk.new W 76 #[.int .i64 (xe : Int), .int .i64 xl]).cell 0
  have kx := ((hx.below hW hx.lt).alloc (.cells #[.int .i64 (xe : Int), .int .i64 xl] 76)).cell 1
  simp only [List.getElem?_toArray, List.getElem?_cons_zero, List.getElem?_cons_succ] at k0 kx
  have HBL := Lib.hid (hW.alloc hW.size (.cells #[.int .i64 (xe : Int), .int .i64 xl] 76))
  clear hx hW
  go_enter Tryd.func43, Tryd.ntmps43
  go_wp2
  go_ret
  exact ⟨rfl, HBL.out⟩
theorem containsNone_any (fv : Value) (w : World) : Calls Tryd.prog 42 #[.slice none 0 0, fv] w fun e w' => e = .returned (.bool false) ∧ w = w' := by
  have hi : Calls Tryd.prog 56 #[.slice none 0 0, fv] w fun e w' => e = .returned (.int .i64 (-1)) ∧ w = w' := by
    go_enter Tryd.func56, Tryd.ntmps56
    go_wp2
    go_loop [8] (fun i => i = .int .i64 0) (fun _ => 0)
    case atStart => rfl
    case round =>
      subst hrel
      go_wp2
      go_ret
      exact ⟨rfl, rfl⟩
  go_enter Tryd.func42, Tryd.ntmps42
  go_wp2_with fail
  refine hi.mono ?_
  rintro e w' ⟨rfl, rfl⟩
  go_wp2
  go_ret
  exact ⟨rfl, rfl⟩
theorem contains_any {base bx : Nat} {u : Value} {row : List (Nat × Int)} (A B L : Int) (w : World) (hx : Blk w bx 43 #[.int .i64 A, .int .i64 B, .int .i64 L]) (hu : w.ownsRow base 76 2 u row.length (row.flatMap endV)) (hn : row.length ≤ 100000) :
    Calls Tryd.prog 42 #[u, .func (.func 43) #[] #[.pointer (some ⟨bx, 0, none⟩)]] w fun e w' => e = .returned (.bool (row.any fun x => ((x.1 : Int) == B))) ∧ Below w.heap.size w w' := by
  rcases Nat.eq_zero_or_pos row.length with h0 | h0
  · obtain rfl : row = [] := List.eq_nil_of_length_eq_zero h0
    obtain ⟨A', c', rfl, _, _⟩ := ownsRow_form hu
    rcases hu.2 with ⟨h', _⟩ | ⟨g, cap, cur, h', _⟩
    · injection h' with h1 _ h3
      subst h1 h3
      refine (containsNone_any _ w).mono ?_
      rintro e w' ⟨rfl, rfl⟩
      exact ⟨rfl, Below.refl _ _⟩
    · injection h' with h1 _ h3
      subst h1 h3
      obtain ⟨_, _, hg⟩ : ∃ cur, w.heap[g]? = some (.cells cur 76 (0, 0)) ∧ True := by
        rcases hu.2 with ⟨h', _⟩ | ⟨g', cap', cur', h', _, hg, _⟩
        · simp at h'
        · simp only [Value.slice.injEq, Option.some.injEq, Addr.mk.injEq, and_true, true_and] at h'
          obtain ⟨rfl, _⟩ := h'
          exact ⟨cur', hg, trivial⟩
      have hlt : g < w.heap.size := by
        rcases hu.2 with ⟨h', _⟩ | ⟨g', cap', cur', h', _, hg, _⟩
        · simp at h'
        · simp only [Value.slice.injEq, Option.some.injEq, Addr.mk.injEq, and_true, true_and] at h'
          obtain ⟨rfl, _⟩ := h'
          exact (Array.getElem?_eq_some_iff.1 hg).1
      have h := AnyQ.slices_ContainsFunc Tryd.hasEnd 2 Tryd.isAgg76 Tryd.sizeOf76 endV (fun _ => rfl) (fun x => ((x.1 : Int) == B)) 43 #[.pointer (some ⟨bx, 0, none⟩)] (enters_of Tryd.func43 (by kernel_rfl) rfl) g 0 0 c' [] w
        (new1_below A B L w hx) (by simp) (by omega) hlt (fun j hj => absurd hj (Nat.not_lt_zero _))
      exact h
  · obtain ⟨q, c, rfl, _, _, _, hq, hcell⟩ := own_pos2 hu rfl h0
    have h := AnyQ.slices_ContainsFunc Tryd.hasEnd 2 Tryd.isAgg76 Tryd.sizeOf76 endV (fun _ => rfl) (fun x => ((x.1 : Int) == B)) 43 #[.pointer (some ⟨bx, 0, none⟩)] (enters_of Tryd.func43 (by kernel_rfl) rfl) q 0 row.length c row w
      (new1_below A B L w hx) (Nat.le_refl _) (by omega) hq (fun j hj i v hi => by
        have hc' := hcell j hj
        rw [getElem!_pos row j hj] at hi
        unfold endV at hi
        rw [Nat.zero_add]
        match i, hi with
        | 0, hi => simp at hi; rw [← hi]; exact hc'.1
        | 1, hi => simp at hi; rw [← hi]; exact hc'.2
        | i + 2, hi => simp at hi)
    rw [List.take_length] at h
    exact h
/-! The order of ends. -/
theorem new2_any (x y : Nat × Int) (w : World) : Calls Tryd.prog 45 #[.agg (endV x).toArray, .agg (endV y).toArray] w fun e w' => e = .returned (.int .i64 (Lib.compareInt x.1 y.1)) ∧ ∃ q os', w' = grow (w.drewN q) os' := by
  obtain ⟨xe, xl⟩ := x
  obtain ⟨ye, yl⟩ := y
  show Calls Tryd.prog 45 #[.agg #[.int .i64 (xe : Int), .int .i64 xl], .agg #[.int .i64 (ye : Int), .int .i64 yl]] w fun e w' => e = .returned (.int .i64 (Lib.compareInt xe ye)) ∧ ∃ q os', w' = grow (w.drewN q) os'
  have hcmp := fun W => Tryd.cmp_Compare_int xe ye W
  go_enter Tryd.func45, Tryd.ntmps45
  go_wp2_with fail
  refine (hcmp _).mono ?_
  rintro e w' ⟨rfl, rfl⟩
  go_wp2
  go_ret
  exact ⟨rfl, 0, _, by rw [alloc_eq_grow, alloc_eq_grow, grow_grow]; rfl⟩
section
variable {α : Type} [Inhabited α]
theorem own_sortWorldK {enc : α → List Value} {k : Nat} (hk : ∀ x, (enc x).length = k) {W : World} {base o n c m : Nat} {e : TypeId} {xs : List Value} {ds : Array α} {os : Array Obj} (h : W.ownsRow base e k (.slice (some ⟨o, 0, none⟩) n c) n xs) (hds : ds.size = n) :
    (sortWorldK enc k W o 0 m ds os).ownsRow base e k (.slice (some ⟨o, 0, none⟩) n c) n (ds.toList.flatMap enc) := by
  have hx := h.1
  rcases h.2 with ⟨h', _⟩ | ⟨g, cap, cur, h', hb, hg, r1, r2, r3, r4⟩
  · simp at h'
  simp only [Value.slice.injEq, Option.some.injEq, Addr.mk.injEq, and_true, true_and] at h'
  obtain ⟨rfl, rfl⟩ := h'
  have hlt : o < W.heap.size := (Array.getElem?_eq_some_iff.1 hg).1
  have hnc : n * k ≤ c * k := Nat.mul_le_mul_right k r1
  have hfl : (ds.toList.flatMap enc).length = n * k := by rw [flatMap_len enc k hk, Array.length_toList, hds]
  refine ⟨hfl, .inr ⟨o, c, putCells id 0 (flatK enc k ds) cur, rfl, hb, ?_, r1, r2, by simp [putCells, r3], ?_⟩⟩
  · unfold sortWorldK putRowK
    rw [Go.Sort.heap_grow_old _ _ (by simpa using hlt)]
    simp [putRow, mapBlock, Sort.ahead, Array.getElem?_modify, hg, onCells]
  · apply List.ext_getElem?
    intro i
    rw [List.getElem?_take]
    by_cases hi : i < n * k
    · rw [if_pos hi]
      have hic : i < cur.size := by omega
      rw [flatK_get enc k hk ds i (by rw [hds]; exact hi)]
      simp [putCells, hic, show i < ds.size * k by rw [hds]; exact hi]
    · rw [if_neg hi, List.getElem?_eq_none (by omega)]
theorem grown_sortWorldK (enc : α → List Value) (k : Nat) (w : World) (blk m : Nat) (dk : Array α) (os : Array Obj) : w.grownBy (sortWorldK enc k w blk 0 m dk os) (some blk) :=
  ⟨rfl, rfl, rfl, size_sortWorldK_c enc k w blk 0 m dk os, fun b hb hne => block_sortWorldK enc k w blk 0 m dk os hb (fun e => hne (by rw [e]))⟩
end
theorem cmpLays2 (w : World) (blk off size : Nat) : CmpLays Tryd.prog 45 #[] endV 2 (fun x y => Lib.compareInt x.1 y.1) blk off size w := by
  intro m os dk _ x y
  exact new2_any x y _
theorem cmp_lt (x y : Int) : Lib.compareInt x y < 0 ↔ x < y := by unfold Lib.compareInt; split <;> (try split) <;> omega
theorem swo2 : SWO (ltOf (fun x y : Nat × Int => Lib.compareInt x.1 y.1)) where
  irrefl x := by unfold ltOf; rw [decide_eq_false_iff_not, cmp_lt]; omega
  trans x y z h1 h2 := by unfold ltOf at *; rw [decide_eq_true_iff, cmp_lt] at *; omega
  ntrans x y z h1 h2 := by unfold ltOf at *; rw [decide_eq_false_iff_not, cmp_lt] at *; omega
theorem sorted_unique {l d : List (Nat × Int)} (hn : (l.map (·.1)).Nodup) (hp : d.Perm l) (hs : d.Pairwise fun x y => x.1 ≤ y.1) : d = l.mergeSort endLe := by
  have hs2 : (l.mergeSort endLe).Pairwise fun x y => endLe x y = true := List.pairwise_mergeSort (fun a b c h1 h2 => by unfold endLe at *; rw [decide_eq_true_iff] at *; omega) (fun a b => by unfold endLe; rcases Nat.le_total a.1 b.1 with h | h <;> simp [h]) l
  have hp2 := hp.trans (List.mergeSort_perm l endLe).symm
  refine hp2.eq_of_pairwise (le := fun x y => x.1 ≤ y.1) (fun a b ha hb h1 h2 => ?_) hs (hs2.imp fun h => by unfold endLe at h; exact of_decide_eq_true h)
  have e : a.1 = b.1 := Nat.le_antisymm h1 h2
  have ha' := hp.mem_iff.1 ha
  have hb' := List.mem_mergeSort.1 hb
  clear ha hb h1 h2 hp2 hs2 hs hp
  induction l with
  | nil => cases ha'
  | cons x l ih =>
    rw [List.map_cons, List.nodup_cons] at hn
    rcases List.mem_cons.1 ha' with r1 | r1
    · rcases List.mem_cons.1 hb' with r2 | r2
      · rw [r1, r2]
      · exact absurd (List.mem_map.2 ⟨b, r2, by rw [← e, r1]⟩) hn.1
    · rcases List.mem_cons.1 hb' with r2 | r2
      · exact absurd (List.mem_map.2 ⟨a, r1, by rw [e, r2]⟩) hn.1
      · exact ih hn.2 r1 r2
theorem sortEnds_any {base : Nat} {u : Value} {row : List (Nat × Int)} (w : World) (hu : w.ownsRow base 76 2 u row.length (row.flatMap endV)) (hn : row.length ≤ 100000) (hd : (row.map (·.1)).Nodup) :
    Calls Tryd.prog 44 #[u, .func (.func 45) #[] #[]] w fun e w' => e = .returned (.tuple #[]) ∧ w'.ownsRow base 76 2 u row.length ((row.mergeSort endLe).flatMap endV) ∧ w.grownBy w' u.ownBlock := by
  rcases Nat.eq_zero_or_pos row.length with h0 | h0
  · obtain rfl : row = [] := List.eq_nil_of_length_eq_zero h0
    obtain ⟨A, c, rfl, _, _⟩ := ownsRow_form hu
    refine (AnyF.slices_SortFunc_none Tryd.sortEnd A c _ w).mono ?_
    rintro e w' ⟨rfl, rfl⟩
    exact ⟨rfl, by simpa using hu, World.grownBy.refl _ _⟩
  · obtain ⟨q, c, rfl, _, hq⟩ := hu.form h0
    have hH := holdsK_own (enc := endV) (fun _ => rfl) hu rfl
    have hcon := AnyQ.slices_SortFunc Tryd.sortEnd 2 Tryd.isAgg76 Tryd.sizeOf76 endV (fun _ => rfl) (fun x v hv => by simp [endV] at hv; rcases hv with rfl | rfl <;> rfl) (fun x y : Nat × Int => Lib.compareInt x.1 y.1) swo2 45 #[] q 0 c row.toArray w
      (enters_of Tryd.func45 (by kernel_rfl) rfl) (cmpLays2 w q 0 _) hH hq (by simp; omega)
    rw [show row.toArray.size = row.length by simp] at hcon
    refine hcon.mono ?_
    rintro e w' ⟨rfl, d', m, os, hp, hs, rfl⟩
    have hsz : d'.size = row.length := by have := hp.1; simpa using this
    have hp' : PermIn 0 row.toArray.size row.toArray d' := by simpa using hp
    have hs' : SortedIn (ltOf fun x y : Nat × Int => Lib.compareInt x.1 y.1) 0 row.toArray.size d' := by simpa using hs
    have hperm := permIn_list hp'
    have hsort := sortedIn_list (by simpa using hsz) hs'
    have huq : d'.toList = row.mergeSort endLe := sorted_unique hd hperm (hsort.imp fun {x y} h => by
      unfold ltOf at h
      rw [decide_eq_false_iff_not, cmp_lt] at h; omega)
    refine ⟨rfl, ?_, grown_sortWorldK endV 2 w q m d' os⟩
    rw [← huq]
    exact own_sortWorldK (enc := endV) (k := 2) (m := m) (os := os) (fun _ => rfl) hu hsz
end Go.Proofs.YtdelkgfodeilkaaDoor
