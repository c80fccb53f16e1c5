/-
  slices.Values, slices.AppendSeq, slices.Collect, slices.Sorted at strings. Conditions: at most 100,000 strings.
-/
import Derived.Test.YtcdpadggjkobjaaGreatDoorNews
import Derived.Sort.OwnSorted
namespace Go.Proofs.YtcdpadggjkobjaaGreatDoor
open Go.RowKit Go.Shelf Go.Lib
attribute [local go_sem] Oper.semAt_some

abbrev encVs (s : ByteArray) : Array Value := #[.string s]
theorem values_any (A : Option Addr) (n c : Nat) (w : World) : Calls Tryz.prog 15 #[.slice A n c] w fun e w' =>
    e = .returned (.func (.func 33) #[] #[.pointer (some ⟨w.heap.size, 0, none⟩)]) ∧ w' = w.alloc (.cells #[.slice A n c] 22) := by
  go_enter Tryz.func15, Tryz.ntmps15
  go_wp2
  go_ret
  exact ⟨rfl, rfl⟩
set_option maxRecDepth 20000 in
set_option maxHeartbeats 4000000 in
theorem iterV (A : Option Addr) (n c b : Nat) (ss : List ByteArray) (w0 : World) (hb : Blk w0 b 22 #[.slice A n c]) (hr : ReadS w0 w0.heap.size A n ss) (hn : n ≤ maxLen) :
    IterAt Tryz.prog 33 #[.pointer (some ⟨b, 0, none⟩)] encVs (fun _ => False) (Below w0.heap.size) (fun xs => xs = ss) (fun pre => pre <+: ss) n w0 := by
  intro l J Jx W hW hJ hJx hY h0
  refine callsIn_of_wp Tryz.func33 rfl trivial ?_ rfl
  simp only [Tryz.ntmps33, List.size_toArray, List.length_cons, List.length_nil, Nat.reduceAdd, Nat.reduceSub, Array.replicate_succ, Array.replicate_zero, List.push_toArray, List.append_toArray, List.nil_append, List.cons_append]
  have HY := Lib.hid hY; clear hY hJ hJx
  have HL := Lib.hid hr.len
  unfold maxLen at hn
  have hc0 := (hb.below hW hb.lt).cell 0
  simp only [List.getElem?_toArray, List.getElem?_cons_zero] at hc0
  gi_wp2
  gi_loopw [7] (fun z wr => ∃ k : Nat, k ≤ n ∧ z = .int .i64 k ∧ Below w0.heap.size w0 wr ∧ J (ss.take k) wr) (fun z _ => n - (intOf z).toNat)
  case atStart => exact ⟨0, by omega, rfl, hW, h0⟩
  case round =>
    obtain ⟨k, hk, rfl, hB, hj⟩ := hrel
    by_cases hlt : k < n
    · have hkl : k < ss.length := by rw [HL.out]; exact hlt
      obtain ⟨ad, rfl, had, hcx⟩ := ReadS.at_ (k := k) (hr.below hB) hkl
      have hY1 := HY.out (ss.take k) ss[k] wr hj (by rw [List.length_take]; omega)
      have hts : ss.take k ++ [ss[k]] = ss.take (k + 1) := (List.take_succ_eq_append_getElem hkl).symm
      have hpre : ss.take (k + 1) <+: ss := List.take_prefix _ _
      rw [hts] at hY1
      generalize ss[k] = x at hcx hY1
      obtain ⟨fn, tmps, assign, body, hy, hR⟩ := hY1
      dsimp only [encVs] at hy
      have HP := Lib.hid hpre
      clear hts hpre hj
      gi_wp2_with fail
      refine hR.mono ?_
      rintro e W3 (⟨rfl, hJ3, hk3⟩ | ⟨rfl, hJx3⟩)
      · have hB3 := hB.trans hk3
        clear hy hR hcx
        gi_wp2
        go_roundw
        case rel => exact ⟨k + 1, by omega, by go_num, hB3, hJ3⟩
        case measure => simp [intOf]; omega
      · gi_wp2
        refine bodyPost_ret (results_none rfl _ _ _) rfl ?_
        exact ⟨⟨_, rfl⟩, .inr ⟨_, HP.out, hJx3⟩⟩
    · obtain rfl : k = n := by omega
      rw [List.take_of_length_le (by rw [HL.out]; exact Nat.le_refl _)] at hj
      gi_wp2
      go_end0
      exact ⟨⟨_, rfl⟩, .inl ⟨ss, rfl, hj⟩⟩
theorem below_alloc_ {n : Nat} (W : World) (o : Obj) (h : n ≤ W.heap.size) : Below n W (W.alloc o) := (Below.refl n W).alloc h o
set_option maxRecDepth 20000 in
set_option maxHeartbeats 4000000 in
theorem appendSeqV (A : Option Addr) (n c b : Nat) (ss : List ByteArray) (w : World) (hbk : Blk w b 22 #[.slice A n c]) (hr : ReadS w w.heap.size A n ss) (hn : n ≤ 100000) :
    Calls Tryz.prog 60 #[.slice none 0 0, .func (.func 33) #[] #[.pointer (some ⟨b, 0, none⟩)]] w (GivesS w ss) := by
  obtain ⟨i0, hi, hz0, hz1, hz2⟩ := info_parts info_string
  have HL := Lib.hid hr.len
  refine (callsIn_wide (n := 4)).1 ?_
  refine callsIn_of_wp_marks Tryz.func60 rfl trivial ?_ rfl
  simp only [Tryz.ntmps60, List.size_toArray, List.length_cons, List.length_nil, Nat.reduceAdd, Nat.reduceSub, Array.replicate_succ, Array.replicate_zero, List.push_toArray, List.append_toArray, List.nil_append, List.cons_append]
  have hit := iterV A n c b ss w hbk hr (by unfold maxLen; omega)
  have k0 : Blk (w.alloc (.cells #[.slice none 0 0] 22)) w.heap.size 22 #[.slice none 0 0] := Blk.new w _ _
  have hb0 : Below w.heap.size w (w.alloc (.cells #[.slice none 0 0] 22)) := (Below.refl _ w).alloc (Nat.le_refl _) _
  have hsz : (w.alloc (.cells #[.slice none 0 0] 22)).heap.size = w.heap.size + 1 := World.size_alloc _ _
  clear hr hbk
  gi_wp2
  generalize w.alloc (.cells #[.slice none 0 0] 22) = W0 at *
  refine range_law (gf := 33) (lb := #[.pointer (some ⟨b, 0, none⟩)]) rfl (enters_of Tryz.func33 (by kernel_rfl) rfl) hit (fun r h => h.elim)
    (fun h k => h.trans k) (fun W l o o' hl h _ => below_put (by omega) h) hb0 (fun _ => rfl)
    (fun pre W => (∃ v, Blk W w.heap.size 22 #[v] ∧ W.ownsRow (w.heap.size + 1) 9 1 v pre.length (strs pre)) ∧ Below w.heap.size w W)
    (fun _ _ _ => False)
    ?hI ?hIx ?h0 (fun x => { tmps := #[.slice none 0 0, .func (.func 33) #[] #[.pointer (some ⟨b, 0, none⟩)], .pointer (some ⟨w.heap.size, 0, none⟩), undef, .slice none 0 0, .string x, .func (.func 33) #[] #[.pointer (some ⟨b, 0, none⟩)], .string x, undef, undef, undef, undef, undef], defers := [] }) ?assign ?body ?done ?stop
  case hI =>
    refine AbidesB.and ?_ (abides_below (by omega) (by omega) (fun r h => h.elim))
    rintro pre A B row ⟨v, h1, h2⟩ hg hr
    exact ⟨v, h1.turn hg hr (fun h => h), own_turn h2 hg hr (fun r h => h.elim)⟩
  case hIx => exact fun c s W W' row h _ _ => h
  case h0 => exact ⟨⟨_, k0, World.ownsRow_nil _ _ _ _⟩, hb0⟩
  case assign =>
    intro l x W K hK
    gi_wp2
    exact hK
  case body =>
    rintro l pre x W hWsz ⟨⟨v, hv, hrow⟩, hB⟩ hlen
    have c2 := hv.cell 0
    have f2 := hv.frozen 0
    simp only [List.getElem?_toArray, List.getElem?_cons_zero] at c2
    obtain ⟨Av, cv, rfl, hcv1, hcv2⟩ := ownsRow_form hrow
    gi_wp2_with (gi_at_builtin; refine wpListIn_append_own _ rfl _ _ 22 rfl (w.heap.size + 1) 9 i0 (.string ByteArray.empty) 1 16 Tryz.underlying22 hi hz0 hz1 hz2 rfl (by decide) _ _ _ rfl (hrow.alloc _) ⟨W.heap.size, 0, none⟩ 1 1 [.string x] rfl rfl (cell_one_new _ _ _) (by simp [Value.oneCell']) (by unfold maxLen; omega) (by omega) (by simp; omega) ?_; intro v' w1 hown' hgrow _; obtain ⟨A2, c2', rfl, _, _⟩ := ownsRow_form hown'; have hv1 := (hv.alloc (.cells #[.string x] 9)).grown hgrow (fun e => by have := (hrow.lt _ e.symm).1; omega); have hc3 := (hv1.cell 0); simp only [List.getElem?_toArray, List.getElem?_cons_zero] at hc3; have hf3 := hv1.frozen 0)
    have hcell := own_cells (hrow.alloc (.cells #[.string x] 9))
    have hlow := fun g hg => (hrow.lt g hg).1
    have hB1 := ((hB.alloc hB.size (.cells #[.string x] 9)).grown hgrow (by simp; omega) (fun g hg => by have := hlow g hg; omega))
    have hK0 : Below w.heap.size W (W.alloc (.cells #[.string x] 9)) := below_alloc_ W _ (by omega)
    have hK1 : Below w.heap.size W w1 := hK0.grown hgrow (by simp; omega) (fun g hg => by have := hlow g hg; omega)
    refine ⟨((KeepsOthers.alloc _ _).trans (KeepsOthers.of_grownBy hgrow hcell)).trans (KeepsOthers.setCell _ _ _), ?_, ⟨_, hv1.set_ 0 _, ?_⟩, hB1.setCell (p := ⟨w.heap.size, 0, none⟩) (Nat.le_refl _) _⟩
    · exact hK1.setCell (p := ⟨w.heap.size, 0, none⟩) (Nat.le_refl _) _
    · have := ownsRow_setCell_below (hown') (a := ⟨w.heap.size, 0, none⟩) (by simp) (.slice A2 (pre.length + 1) c2')
      simpa using this
  case done =>
    rintro D xs W hD rfl ⟨⟨v, hv, hrow⟩, hB⟩ hK
    have ho := ownsRow_putObj hrow (.deferred none) hK rfl
    have hBo := hB.trans (below_put (n := w.heap.size) (o' := .deferred none) (show w.heap.size ≤ D by omega) hK)
    have c2 := hv.cell 0
    simp only [List.getElem?_toArray, List.getElem?_cons_zero] at c2
    gi_wp2
    refine ⟨by simp, .inl ⟨_, _, rfl, run_takeDeferred hK, ?_⟩⟩
    generalize W.putObj D (.deferred none) = WF at *
    refine ⟨v, by simp [results, Tryz.results60, go_sem], ?_⟩
    exact ⟨_, rfl, own_mono ho (by omega), hBo⟩
  case stop =>
    rintro D c pre W hD hpre h hK
    exact h.elim
/-! slices.Collect and slices.Sorted. -/
theorem collectV (A : Option Addr) (n c b : Nat) (ss : List ByteArray) (w : World) (hbk : Blk w b 22 #[.slice A n c]) (hr : ReadS w w.heap.size A n ss) (hn : n ≤ 100000) :
    Calls Tryz.prog 32 #[.func (.func 33) #[] #[.pointer (some ⟨b, 0, none⟩)]] w (GivesS w ss) := by
  have h := appendSeqV A n c b ss w hbk hr hn
  go_enter Tryz.func32, Tryz.ntmps32
  go_wp2_with fail
  refine h.mono ?_
  rintro e w1 ⟨v, rfl, ho, hb⟩
  go_wp2
  go_ret
  exact ⟨v, rfl, ho, hb⟩
def sortS (ss : List ByteArray) : List ByteArray := ((ss.map bl).mergeSort fun x y => decide (x ≤ y)).map mkB
theorem encStr_bl (x : ByteArray) : encStr (bl x) = Value.string x := rfl
theorem encStr_map (ss : List ByteArray) : (ss.map bl).map encStr = strs ss := by rw [List.map_map]; exact List.map_congr_left fun x _ => encStr_bl x
theorem encStr_mkB (l : List (List UInt8)) : l.map encStr = strs (l.map mkB) := by unfold strs; rw [List.map_map]; rfl
theorem sortS_length (ss : List ByteArray) : (sortS ss).length = ss.length := by simp [sortS]
theorem sortS_perm {ss ts : List ByteArray} (h : ss.Perm ts) : sortS ss = sortS ts := by
  unfold sortS
  congr 1
  have h1 := (h.map bl).trans (List.mergeSort_perm (ts.map bl) (fun x y => decide (x ≤ y))).symm
  have hp := (List.mergeSort_perm (ss.map bl) (fun x y => decide (x ≤ y))).trans h1
  refine hp.eq_of_pairwise (fun a b _ _ h1 h2 => ?_) (List.pairwise_mergeSort (fun a b c h1 h2 => ?_) (fun a b => ?_) _) (List.pairwise_mergeSort (fun a b c h1 h2 => ?_) (fun a b => ?_) _)
  · exact List.le_antisymm (of_decide_eq_true h1) (of_decide_eq_true h2)
  · exact decide_eq_true (List.le_trans (of_decide_eq_true h1) (of_decide_eq_true h2))
  · rcases List.le_total a b with h | h <;> simp [h]
  · exact decide_eq_true (List.le_trans (of_decide_eq_true h1) (of_decide_eq_true h2))
  · rcases List.le_total a b with h | h <;> simp [h]
theorem sort_row {w : World} {base n : Nat} {v : Value} {ss : List ByteArray} (h : w.ownsRow base 9 1 v n (strs ss)) (hn : n ≤ 100000) :
    Calls Tryz.prog 13 #[v] w fun e w' => e = .returned (.tuple #[]) ∧ w'.ownsRow base 9 1 v n (strs (sortS ss)) ∧ w.grownBy w' v.ownBlock := by
  have hl : ss.length = n := by have := h.1; simpa [strs] using this
  rcases h.2 with ⟨rfl, hz⟩ | ⟨gb, cap, cur, rfl, hbase, hgb, r1, r2, r3, r4⟩
  · have hz' : n = 0 := hz
    subst hz'
    obtain rfl : ss = [] := List.eq_nil_of_length_eq_zero hl
    refine (Tryz.slices_Sort_string_none none 0 w).mono ?_
    rintro e w' ⟨rfl, rfl⟩
    exact ⟨rfl, by rw [show sortS [] = [] by simp [sortS]]; exact h, World.grownBy.refl _ _⟩
  · subst hl
    have hH : Go.Sort.Holds encStr w gb 0 (ss.map bl).toArray := holds_of_block hgb (by rw [List.length_map, encStr_map]; simpa using r4)
    have hc := Tryz.slices_Sort_string gb 0 cap (ss.map bl) w hH (Array.getElem?_eq_some_iff.1 hgb).1 (by rw [List.length_map]; omega)
    rw [List.length_map] at hc
    refine hc.mono ?_
    rintro e w' ⟨rfl, nn, os, rfl⟩
    refine ⟨rfl, ?_, grownBy_sorted _⟩
    have ho := ownsRow_sorted (ss := ss.map bl) (ts := (ss.map bl).mergeSort fun x y => decide (x ≤ y)) (os := os) (n := nn) (by simp) hbase hgb (by simpa using r1) r2 r3
    rw [List.length_map, encStr_mkB] at ho
    exact ho
theorem reverse_row {w : World} {base n : Nat} {v : Value} {ss : List ByteArray} (h : w.ownsRow base 9 1 v n (strs ss)) (hn : n ≤ 100000) :
    Calls Tryz.prog 12 #[v] w fun e w' => e = .returned (.tuple #[]) ∧ w'.ownsRow base 9 1 v n (strs ss.reverse) ∧ w.grownBy w' v.ownBlock := by
  have hl : ss.length = n := by have := h.1; simpa [strs] using this
  rcases h.2 with ⟨rfl, hz⟩ | ⟨gb, cap, cur, rfl, hbase, hgb, r1, r2, r3, r4⟩
  · have hz' : n = 0 := hz
    subst hz'
    obtain rfl : ss = [] := List.eq_nil_of_length_eq_zero hl
    refine (Tryz.slices_Reverse_string_empty none 0 w).mono ?_
    rintro e w' ⟨rfl, rfl⟩
    exact ⟨rfl, h, World.grownBy.refl _ _⟩
  · subst hl
    have hH : Go.Sort.Holds encStr w gb 0 (ss.map bl).toArray := holds_of_block hgb (by rw [List.length_map, encStr_map]; simpa using r4)
    have hc := Tryz.slices_Reverse_string gb 0 cap (ss.map bl) w hH (by rw [List.length_map]; omega)
    rw [List.length_map] at hc
    refine hc.mono ?_
    rintro e w' ⟨rfl, nn, rfl⟩
    have ho := ownsRow_sorted (ss := ss.map bl) (ts := (ss.map bl).reverse) (os := #[]) (n := nn) (by simp) hbase hgb (by simpa using r1) r2 r3
    have hg := grownBy_sorted (w := w) (g := gb) (n := nn) (os := #[]) (ss.map bl).reverse.toArray
    rw [show ∀ W : World, Go.Sort.grow W #[] = W from fun W => by unfold Go.Sort.grow; simp] at ho hg
    rw [List.length_map, ← List.map_reverse, encStr_map] at ho
    rw [← List.map_reverse] at hg ⊢
    exact ⟨rfl, ho, hg⟩
theorem sortedV (A : Option Addr) (n c b : Nat) (ss : List ByteArray) (w : World) (hbk : Blk w b 22 #[.slice A n c]) (hr : ReadS w w.heap.size A n ss) (hn : n ≤ 100000) :
    Calls Tryz.prog 14 #[.func (.func 33) #[] #[.pointer (some ⟨b, 0, none⟩)]] w (GivesS w (sortS ss)) := by
  have h := collectV A n c b ss w hbk hr hn
  have hl := hr.len
  go_enter Tryz.func14, Tryz.ntmps14
  go_wp2_with fail
  refine h.mono ?_
  rintro e w1 ⟨v, rfl, ho, hb⟩
  go_wp2_with fail
  refine (sort_row ho (by omega)).mono ?_
  rintro e w2 ⟨rfl, ho2, hg⟩
  have hb2 : Below w.heap.size w w2 := hb.grown hg hb.size (fun g hg => (ho.lt g hg).1)
  go_wp2
  go_ret
  exact ⟨v, rfl, by rw [sortS_length]; exact ho2, hb2⟩
end Go.Proofs.YtcdpadggjkobjaaGreatDoor
