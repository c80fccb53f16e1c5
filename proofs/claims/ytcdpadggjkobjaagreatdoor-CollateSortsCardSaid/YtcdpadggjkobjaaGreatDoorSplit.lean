/-
  layer 39: Split of the program. Conditions: an alphabet in memory as New makes it.
-/
import Derived.Test.YtcdpadggjkobjaaGreatDoorLet
import Derived.Test.YtcdpadggjkobjaaGreatDoorRef5
namespace Go.Proofs.YtcdpadggjkobjaaGreatDoor
open Go.RowKit Go.Shelf
attribute [local go_sem] Oper.semAt_some

theorem below_put {n l : Nat} {W : World} {o o' : Obj} (hl : n ≤ l) (h : W.heap[l]? = some o) : Below n W (W.putObj l o') :=
  (Below.refl n W).grown (grownBy_putObj' W l o') (by have := (Array.getElem?_eq_some_iff.1 h).1; omega) (fun k e => by cases e; exact hl)
theorem Blk.turn {mine : Nat → Prop} {B g : Nat} {t : TypeId} {cs : Array Value} {W W' : World} {row : Option Nat} (h : Blk W g t cs) (hg : W.grownBy W' row) (hr : ∀ r, row = some r → mine r ∨ (B ≤ r ∧ ∃ o : Obj, W.heap[r]? = some o ∧ o.isCells = false)) (hm : ¬ mine g) : Blk W' g t cs :=
  h.grown hg (fun e => by
    rcases hr g e.symm with h1 | ⟨_, o, ho, hc⟩
    · exact hm h1
    · unfold Blk at h; rw [h] at ho; injection ho with ho; subst ho; simp [Obj.isCells] at hc)
theorem own_turn {mine : Nat → Prop} {B b0 : Nat} {e : TypeId} {n : Nat} {v : Value} {xs : List Value} {W W' : World} {row : Option Nat} (h : W.ownsRow b0 e 1 v n xs) (hg : W.grownBy W' row) (hr : ∀ r, row = some r → mine r ∨ (B ≤ r ∧ ∃ o : Obj, W.heap[r]? = some o ∧ o.isCells = false)) (hm : ∀ r, mine r → r < b0) : W'.ownsRow b0 e 1 v n xs := by
  refine h.kept hg ?_
  rcases h.2 with ⟨rfl, _⟩ | ⟨g, cap, cur, rfl, hb, hh, _⟩
  · exact .inl rfl
  · refine .inr (fun e => ?_)
    simp only [Value.ownBlock] at e
    rcases hr g e.symm with h1 | ⟨_, o, ho, hc⟩
    · have := hm g h1; omega
    · rw [hh] at ho; injection ho with ho; subst ho; simp [Obj.isCells] at hc

def AllPos (pre : List (ByteArray × Int)) : Prop := ∀ e ∈ pre, ¬ e.2 < 0
def SomeNeg (pre : List (ByteArray × Int)) : Prop := ∃ e ∈ pre, e.2 < 0
theorem keepL_set {n b0 b1 : Nat} {W : World} {p : Addr} {u : Value} (hp : n ≤ p.block) (h0 : p.block ≠ b0) (h1 : p.block ≠ b1) : KeepL n b0 b1 W (W.setCell p u) :=
  ⟨(Below.refl n W).setCell hp u, Below.heap_setCell _ _ _ _ (fun e => h0 e.symm), Below.heap_setCell _ _ _ _ (fun e => h1 e.symm)⟩
theorem keepL_trans {n b0 b1 : Nat} {A B C : World} (h : KeepL n b0 b1 A B) (k : KeepL n b0 b1 B C) : KeepL n b0 b1 A C := ⟨h.1.trans k.1, k.2.1.trans h.2.1, k.2.2.trans h.2.2⟩
theorem keepL_alloc {n b0 b1 : Nat} {W : World} (o : Obj) (hn : n ≤ W.heap.size) (h0 : b0 < W.heap.size) (h1 : b1 < W.heap.size) : KeepL n b0 b1 W (W.alloc o) :=
  ⟨(Below.refl n W).alloc hn o, Below.heap_alloc _ _ _ h0, Below.heap_alloc _ _ _ h1⟩
theorem keepL_grown {n b0 b1 : Nat} {W W' : World} {row : Option Nat} (hg : W.grownBy W' row) (hn : n ≤ W.heap.size) (h0 : b0 < W.heap.size) (h1 : b1 < W.heap.size) (hr : ∀ r, row = some r → n ≤ r ∧ r ≠ b0 ∧ r ≠ b1) : KeepL n b0 b1 W W' :=
  ⟨(Below.refl n W).grown hg hn (fun k e => (hr k e).1), hg.block _ h0 (fun e => (hr _ e.symm).2.1 rfl), hg.block _ h1 (fun e => (hr _ e.symm).2.2 rfl)⟩
theorem own_cells {w : World} {b : Nat} {e : TypeId} {n : Nat} {v : Value} {xs : List Value} (h : w.ownsRow b e 1 v n xs) : ∀ (j : Nat) (o : Obj), v.ownBlock = some j → w.heap[j]? = some o → o.isCells = true := by
  intro j o hj ho
  rcases h.2 with ⟨rfl, _⟩ | ⟨g, cap, cur, rfl, hb, hh, _⟩
  · cases hj
  · simp only [Value.ownBlock, Option.some.injEq] at hj; subst hj
    rw [hh] at ho; injection ho with ho; subst ho; rfl

set_option maxRecDepth 20000 in
set_option maxHeartbeats 4000000 in
theorem split_prg (g : Nat) (gs : List (List ByteArray)) (s : ByteArray) (w : World) (hA : Alph w g gs) (hG : GoodG gs) :
    Calls Tryz.prog 20 #[.pointer (some ⟨g, 0, none⟩), .string s] w (SplitPost w (readRes gs s)) := by
  obtain ⟨i0, hi, hz0, hz1, hz2⟩ := info_parts info_string
  refine (callsIn_wide (n := 4)).1 ?_
  refine callsIn_of_wp_marks Tryz.func20 rfl trivial ?_ rfl
  simp only [Tryz.ntmps20, List.size_toArray, List.length_cons, List.length_nil, Nat.reduceAdd, Nat.reduceSub, Array.replicate_succ, Array.replicate_zero, List.push_toArray, List.append_toArray, List.nil_append, List.cons_append]
  have hb2 : Below w.heap.size w ((w.alloc (.cells #[.slice none 0 0] 22)).alloc (.cells #[.int .i64 0] 31)) := ((Below.refl _ w).alloc (Nat.le_refl _) _).alloc (by simp) _
  have hwr := fun W (hW : Below w.heap.size w W) => wrong_any g gs s W (hA.below hW)
  have HW := Lib.hid hwr; clear hwr
  by_cases hs : 65536 < s.size
  · have hR : readRes gs s = (11, []) := by unfold readRes; rw [if_pos hs]
    have HR := Lib.hid hR; clear hR
    gi_wp2_with (refine ⟨trivial, ?_⟩; gi_at_call 39; refine callsIn_wide.2 ((HW.out _ hb2).mono ?_); rw [if_pos hs]; rintro e w' ⟨rfl, rfl⟩)
    refine ⟨.tuple #[.slice none 0 0, .int .i64 11], by simp [results, Tryz.results20, go_sem], ?_⟩
    rw [HR.out]
    exact ⟨_, rfl, World.ownsRow_nil _ _ _ _, ((Below.refl _ w).alloc (Nat.le_refl _) _).alloc (by simp) _⟩
  · have hR : readRes gs s = match parse gs s with | none => (10, []) | some es => (0, es) := by unfold readRes; rw [if_neg hs]; cases parse gs s <;> rfl
    have HR := Lib.hid hR; clear hR
    gi_wp2_with (first
      | (refine ⟨trivial, ?_⟩; gi_at_call 39; refine callsIn_wide.2 ((HW.out _ hb2).mono ?_); rw [if_neg hs]; rintro e w' ⟨rfl, rfl⟩)
      | (refine ⟨trivial, ?_⟩; gi_at_call 40; refine callsIn_wide.2 ((letters_any _ ⟨_, rfl⟩ _ _).mono ?_); rintro e w' ⟨rfl, rfl⟩))
    obtain ⟨W0, hW0⟩ : ∃ W0, ((((w.alloc (.cells #[.slice none 0 0] 22)).alloc (.cells #[.int .i64 0] 31)).alloc (.cells #[.slice none 0 0] 22)).alloc (.cells #[.pointer (some ⟨g, 0, none⟩)] 26)).alloc (.cells #[.string s] 9) = W0 := ⟨_, rfl⟩
    rw [hW0]
    have hsz : W0.heap.size = w.heap.size + 5 := by rw [← hW0]; simp
    have hbW : Below w.heap.size w W0 := by
      rw [← hW0]; exact (((((Below.refl _ w).alloc (Nat.le_refl _) _).alloc (by simp) _).alloc (by simp; omega) _).alloc (by simp; omega) _).alloc (by simp; omega) _
    have k0 : Blk W0 w.heap.size 22 #[.slice none 0 0] := by
      rw [← hW0]; exact ((((Blk.new w _ _).alloc _).alloc _).alloc _).alloc _
    have k1 : Blk W0 (w.heap.size + 1) 31 #[.int .i64 0] := by
      rw [← hW0]
      have := Blk.new (w.alloc (.cells #[.slice none 0 0] 22)) 31 #[.int .i64 0]
      rw [World.size_alloc] at this; exact ((this.alloc _).alloc _).alloc _
    have k2 : Blk W0 (w.heap.size + 2) 22 #[.slice none 0 0] := by
      rw [← hW0]
      have := Blk.new ((w.alloc (.cells #[.slice none 0 0] 22)).alloc (.cells #[.int .i64 0] 31)) 22 #[.slice none 0 0]
      simp only [World.size_alloc] at this; exact (this.alloc _).alloc _
    have k3 : Blk W0 (w.heap.size + 3) 26 #[.pointer (some ⟨g, 0, none⟩)] := by
      rw [← hW0]
      have := Blk.new (((w.alloc (.cells #[.slice none 0 0] 22)).alloc (.cells #[.int .i64 0] 31)).alloc (.cells #[.slice none 0 0] 22)) 26 #[.pointer (some ⟨g, 0, none⟩)]
      simp only [World.size_alloc] at this; exact this.alloc _
    have k4 : Blk W0 (w.heap.size + 4) 9 #[.string s] := by
      rw [← hW0]
      have := Blk.new ((((w.alloc (.cells #[.slice none 0 0] 22)).alloc (.cells #[.int .i64 0] 31)).alloc (.cells #[.slice none 0 0] 22)).alloc (.cells #[.pointer (some ⟨g, 0, none⟩)] 26)) 9 #[.string s]
      simp only [World.size_alloc] at this; exact this
    clear hW0
    have hit := iter_any g (w.heap.size + 3) (w.heap.size + 4) gs s w W0 hA hG hbW (by omega) (by omega) (by omega) k3 k4 (by omega)
    refine range_law (gf := 66) (lb := #[.pointer (some ⟨w.heap.size + 4, 0, none⟩), .pointer (some ⟨w.heap.size + 3, 0, none⟩)]) rfl (enters_of Tryz.func66 (by kernel_rfl) rfl) hit (fun r e => by omega)
      (fun h k => ⟨h.1.trans k.1, k.2.1.trans h.2.1, k.2.2.trans h.2.2⟩) (fun W l o o' hl h _ => ⟨below_put (by omega) h, World.putObj_heap_other (by omega), World.putObj_heap_other (by omega)⟩) (Below.refl _ _) (fun _ => rfl)
      (fun pre W => ((∃ v, Blk W (w.heap.size + 2) 22 #[v] ∧ W.ownsRow (w.heap.size + 5) 9 1 v pre.length (strs (letS pre))) ∧ AllPos pre) ∧ (Blk W w.heap.size 22 #[.slice none 0 0] ∧ Blk W (w.heap.size + 1) 31 #[.int .i64 0]) ∧ Below w.heap.size w W)
      (fun c pre W => (c = .ret ∧ SomeNeg pre) ∧ (Blk W w.heap.size 22 #[.slice none 0 0] ∧ Blk W (w.heap.size + 1) 31 #[.int .i64 10]) ∧ Below w.heap.size w W)
      ?hI ?hIx ?h0 (fun x => { tmps := #[.pointer (some ⟨g, 0, none⟩), .string s, undef, undef, .pointer (some ⟨w.heap.size, 0, none⟩), .pointer (some ⟨w.heap.size + 1, 0, none⟩), .int .i64 0, .pointer (some ⟨w.heap.size + 2, 0, none⟩), .string x.1, .int .i64 x.2, .pointer (some ⟨g, 0, none⟩), .string s, .int .i64 0, .int .i64 0, .bool false, undef, .pointer (some ⟨g, 0, none⟩), .string s, .func (.func 66) #[] #[.pointer (some ⟨w.heap.size + 4, 0, none⟩), .pointer (some ⟨w.heap.size + 3, 0, none⟩)], .string x.1, .int .i64 x.2, undef, undef, undef, undef, undef, undef, undef], defers := [] }) ?assign ?body ?done ?stop
    case hI =>
      refine AbidesB.and ?_ (AbidesB.and ?_ (abides_below (Nat.le_refl _) (by omega) (fun r e => by omega)))
      · rintro pre A B row ⟨⟨v, h1, h2⟩, h3⟩ hg hr
        exact ⟨⟨v, h1.turn hg hr (by omega), own_turn h2 hg hr (fun r e => by omega)⟩, h3⟩
      · rintro pre A B row ⟨h1, h2⟩ hg hr
        exact ⟨h1.turn hg hr (by omega), h2.turn hg hr (by omega)⟩
    case hIx =>
      intro c
      refine AbidesB.and (AbidesB.pure_ _ _ _) (AbidesB.and ?_ (abides_below (Nat.le_refl _) (by omega) (fun r e => by omega)))
      rintro pre A B row ⟨h1, h2⟩ hg hr
      exact ⟨h1.turn hg hr (by omega), h2.turn hg hr (by omega)⟩
    case h0 => exact ⟨⟨⟨_, k2, World.ownsRow_nil _ _ _ _⟩, fun e he => by cases he⟩, ⟨k0, k1⟩, hbW⟩
    case assign =>
      intro l x W K hK
      gi_wp2
      exact hK
    case body =>
      rintro l pre ⟨x, i⟩ W hWsz ⟨⟨⟨v, hv, hrow⟩, hpre⟩, ⟨h0, h1⟩, hB⟩ hlen
      have HPRE := Lib.hid hpre; clear hpre
      by_cases hneg : i < 0
      · have c0 := h0.cell 0
        have c1 := h1.cell 0
        simp only [List.getElem?_toArray, List.getElem?_cons_zero] at c0 c1
        have f0 := h0.frozen 0
        have f1 := h1.frozen 0
        have H0 := Lib.hid h0; have H1 := Lib.hid h1
        clear h0 h1 hv hrow
        gi_wp2
        refine ⟨(KeepsOthers.setCell _ _ _).trans (KeepsOthers.setCell _ _ _), ⟨rfl, (x, i), by simp, hneg⟩, ⟨?_, ?_⟩, (hB.setCell (p := ⟨w.heap.size, 0, none⟩) (Nat.le_refl _) _).setCell (p := ⟨w.heap.size + 1, 0, none⟩) (by simp) _⟩
        · exact (H0.out.set_ 0 (.slice none 0 0)).far (p := ⟨w.heap.size + 1, 0, none⟩) (by simp) _
        · exact (H1.out.far (p := ⟨w.heap.size, 0, none⟩) (by simp) (.slice none 0 0)).set_ 0 _
      · have c2 := hv.cell 0
        have f2 := hv.frozen 0
        simp only [List.getElem?_toArray, List.getElem?_cons_zero] at c2
        have H0 := Lib.hid h0; have H1 := Lib.hid h1
        clear h0 h1
        obtain ⟨Av, cv, rfl, hcv1, hcv2⟩ := ownsRow_form hrow
        gi_wp2_with (gi_at_builtin; refine wpListIn_append_own _ rfl _ _ 22 rfl (w.heap.size + 5) 9 i0 (.string ByteArray.empty) 1 16 Tryz.underlying22 hi hz0 hz1 hz2 rfl (by decide) _ _ _ rfl (hrow.alloc _) ⟨W.heap.size, 0, none⟩ 1 1 [.string x] rfl rfl (cell_one_new _ _ _) (by simp [Value.oneCell']) (by unfold maxLen; omega) (by omega) (by simp; omega) ?_; intro v' w1 hown' hgrow _; obtain ⟨A2, c2', rfl, _, _⟩ := ownsRow_form hown'; have hv1 := (hv.alloc (.cells #[.string x] 9)).grown hgrow (fun e => by have := (hrow.lt _ e.symm).1; omega); have hc3 := (hv1.cell 0); simp only [List.getElem?_toArray, List.getElem?_cons_zero] at hc3; have hf3 := hv1.frozen 0)
        have hcell := own_cells (hrow.alloc (.cells #[.string x] 9))
        have hlow := fun g hg => (hrow.lt g hg).1
        have hB1 := ((hB.alloc hB.size (.cells #[.string x] 9)).grown hgrow (by simp; omega) (fun g hg => by have := hlow g hg; omega))
        refine ⟨((KeepsOthers.alloc _ _).trans (KeepsOthers.of_grownBy hgrow hcell)).trans (KeepsOthers.setCell _ _ _), ?_, ⟨⟨_, hv1.set_ 0 _, ?_⟩, ?_⟩, ⟨?_, ?_⟩, hB1.setCell (p := ⟨w.heap.size + 2, 0, none⟩) (by simp) _⟩
        · exact keepL_trans (keepL_trans (keepL_alloc _ (by omega) (by omega) (by omega)) (keepL_grown hgrow (by simp; omega) (by simp; omega) (by simp; omega) (fun r e => by have := hlow r e; omega))) (keepL_set (by simp) (by simp) (by simp))
        · have := ownsRow_setCell_below (hown') (a := ⟨w.heap.size + 2, 0, none⟩) (by simp) (.slice A2 (pre.length + 1) c2')
          simpa [letS] using this
        · intro e he
          rw [List.mem_append, List.mem_singleton] at he
          rcases he with he | rfl
          · exact HPRE.out e he
          · exact fun h => absurd h (by simp only; omega)
        · exact (((H0.out.alloc _).grown hgrow (fun e => by have := hlow _ e.symm; omega))).far (p := ⟨w.heap.size + 2, 0, none⟩) (by simp) _
        · exact (((H1.out.alloc _).grown hgrow (fun e => by have := hlow _ e.symm; omega))).far (p := ⟨w.heap.size + 2, 0, none⟩) (by simp) _
    case done =>
      rintro D xs W hD rfl ⟨⟨⟨v, hv, hrow⟩, hpos⟩, ⟨h0, h1⟩, hB⟩ hK
      have hRE : readRes gs s = (0, strm gs s) := by rw [HR.out, parse_some_of hpos]
      have HRE := Lib.hid hRE; clear hRE
      have c0 := h0.cell 0
      have c1 := h1.cell 0
      have c2 := hv.cell 0
      simp only [List.getElem?_toArray, List.getElem?_cons_zero] at c0 c1 c2
      have f0 := h0.frozen 0
      have f1 := h1.frozen 0
      obtain ⟨Av, cv, rfl, hcv1, hcv2⟩ := ownsRow_form hrow
      have k0' := (h0.set_ 0 (.slice Av (strm gs s).length cv)).far (p := ⟨w.heap.size + 1, 0, none⟩) (by simp) (.int .i64 0)
      have k1' := (h1.far (p := ⟨w.heap.size, 0, none⟩) (by simp) (.slice Av (strm gs s).length cv)).set_ 0 (.int .i64 0)
      have hK1 := ((KeepsOthers.setCell W ⟨w.heap.size, 0, none⟩ (.slice Av (strm gs s).length cv)).trans (KeepsOthers.setCell _ ⟨w.heap.size + 1, 0, none⟩ (.int .i64 0))).same D _ hK rfl
      have hrow1 := ownsRow_setCell_below (ownsRow_setCell_below hrow (a := ⟨w.heap.size, 0, none⟩) (by simp) (.slice Av (strm gs s).length cv)) (a := ⟨w.heap.size + 1, 0, none⟩) (by simp) (.int .i64 0)
      have hB1 := (hB.setCell (p := ⟨w.heap.size, 0, none⟩) (Nat.le_refl _) (.slice Av (strm gs s).length cv)).setCell (p := ⟨w.heap.size + 1, 0, none⟩) (by simp) (.int .i64 0)
      have hDs : D ≠ w.heap.size ∧ D ≠ w.heap.size + 1 := ⟨by omega, by omega⟩
      have ha := (Blk.cell (show Blk ((((W.setCell ⟨w.heap.size, 0, none⟩ (.slice Av (strm gs s).length cv)).setCell ⟨w.heap.size + 1, 0, none⟩ (.int .i64 0))).putObj D (.deferred none)) w.heap.size 22 _ from (World.putObj_heap_other (by omega)).trans k0') 0)
      have hb := (Blk.cell (show Blk ((((W.setCell ⟨w.heap.size, 0, none⟩ (.slice Av (strm gs s).length cv)).setCell ⟨w.heap.size + 1, 0, none⟩ (.int .i64 0))).putObj D (.deferred none)) (w.heap.size + 1) 31 _ from (World.putObj_heap_other (by omega)).trans k1') 0)
      have hro := own_mono (ownsRow_putObj hrow1 (.deferred none) hK1 rfl) (show w.heap.size ≤ w.heap.size + 5 by omega)
      have hBo := hB1.trans (below_put (n := w.heap.size) (o' := .deferred none) (show w.heap.size ≤ D by omega) hK1)
      clear k0' k1' hrow1 hB1
      gi_wp2
      refine ⟨by simp, .inl ⟨_, _, rfl, run_takeDeferred hK1, ?_⟩⟩
      generalize (((W.setCell ⟨w.heap.size, 0, none⟩ (.slice Av (strm gs s).length cv)).setCell ⟨w.heap.size + 1, 0, none⟩ (.int .i64 0))).putObj D (.deferred none) = WF at *
      refine ⟨.tuple #[.slice Av (strm gs s).length cv, .int .i64 0], by simp [results, Tryz.results20, go_sem, ha, hb], ?_⟩
      rw [HRE.out]
      exact ⟨_, rfl, hro, hBo⟩
    case stop =>
      rintro D c pre W hD hpre ⟨⟨rfl, hneg⟩, ⟨h0, h1⟩, hB⟩ hK
      have hRE : readRes gs s = (10, []) := by
        obtain ⟨e, he, hn⟩ := hneg
        rw [HR.out, parse_none_of ⟨e, hpre.subset he, hn⟩]
      have HRE := Lib.hid hRE; clear hRE
      have ha := (Blk.cell (show Blk (W.putObj D (.deferred none)) w.heap.size 22 _ from (World.putObj_heap_other (by omega)).trans h0) 0)
      have hb := (Blk.cell (show Blk (W.putObj D (.deferred none)) (w.heap.size + 1) 31 _ from (World.putObj_heap_other (by omega)).trans h1) 0)
      have hBo := hB.trans (below_put (n := w.heap.size) (o' := .deferred none) (show w.heap.size ≤ D by omega) hK)
      gi_wp2
      refine ⟨by simp, .inl ⟨_, _, rfl, run_takeDeferred hK, ?_⟩⟩
      generalize W.putObj D (.deferred none) = WF at *
      refine ⟨.tuple #[.slice none 0 0, .int .i64 10], by simp [results, Tryz.results20, go_sem, ha, hb], ?_⟩
      rw [HRE.out]
      exact ⟨_, rfl, World.ownsRow_nil _ _ _ _, hBo⟩
end Go.Proofs.YtcdpadggjkobjaaGreatDoor
