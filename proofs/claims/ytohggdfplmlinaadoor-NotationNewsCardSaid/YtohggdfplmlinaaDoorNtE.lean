/-
  layer 4: the examples of the chapter: works. Conditions: none.
-/
import Derived.Test.YtohggdfplmlinaaDoorNtZ
namespace Go.Proofs.YtohggdfplmlinaaDoor
open Go.RowKit Go.Lib

theorem reads_cells {w : World} {q n k : Nat} {t : TypeId} {cs : List Value} (h : Blk w q t cs.toArray) (hl : cs.length = n * k) : Reads w (q + 1) k (some ⟨q, 0, none⟩) n cs :=
  ⟨hl, fun _ => ⟨_, rfl, Nat.lt_succ_self _, fun j u hu => by
    rw [add_at, h.cell j]
    simpa using hu⟩⟩
theorem four_blks (w : World) (c0 c1 c2 c3 : Array Value) (t0 t1 t2 t3 : TypeId) {W : World} (h : (((w.alloc (.cells c0 t0)).alloc (.cells c1 t1)).alloc (.cells c2 t2)).alloc (.cells c3 t3) = W) :
    (Blk W w.heap.size t0 c0 ∧ Blk W (w.heap.size + 1) t1 c1 ∧ Blk W (w.heap.size + 2) t2 c2 ∧ Blk W (w.heap.size + 3) t3 c3) ∧ W.heap.size = w.heap.size + 4 ∧ Below w.heap.size w W := by
  subst h
  have z1 := World.size_alloc w (.cells c0 t0)
  have z2 := World.size_alloc (w.alloc (.cells c0 t0)) (.cells c1 t1)
  have z3 := World.size_alloc ((w.alloc (.cells c0 t0)).alloc (.cells c1 t1)) (.cells c2 t2)
  have z4 := World.size_alloc (((w.alloc (.cells c0 t0)).alloc (.cells c1 t1)).alloc (.cells c2 t2)) (.cells c3 t3)
  have b0 := Blk.new w t0 c0
  have b1 := Blk.new (w.alloc (.cells c0 t0)) t1 c1
  have b2 := Blk.new ((w.alloc (.cells c0 t0)).alloc (.cells c1 t1)) t2 c2
  have b3 := Blk.new (((w.alloc (.cells c0 t0)).alloc (.cells c1 t1)).alloc (.cells c2 t2)) t3 c3
  rw [z1] at b1
  rw [z2, z1] at b2
  rw [z3, z2, z1] at b3
  exact ⟨⟨((b0.alloc _).alloc _).alloc _, (b1.alloc _).alloc _, b2.alloc _, b3⟩, by rw [z4, z3, z2, z1], ((((Below.refl _ w).alloc (Nat.le_refl _) _).alloc (by omega) _).alloc (by omega) _).alloc (by omega) _⟩
def ExPost (w : World) (e : Ending) (w' : World) : Prop := ∃ A1 A2 A3, e = .returned (caseV A1 A2 A3 3 3 4 4 2 2) ∧ CaseM w' w'.heap.size A1 A2 A3 3 3 4 4 2 2 exF exL exM ∧ Below w.heap.size w w'
set_option maxRecDepth 20000 in
set_option maxHeartbeats 1000000 in
theorem example_any (w : World) : Calls Tryd.prog 25 #[] w (ExPost w) := by
  go_enter Tryd.func25, Tryd.ntmps25
  go_wp2
  obtain ⟨W, hW⟩ : ∃ W, ((((w.alloc (.cells #[.slice (some ⟨w.heap.size + 1, 0, none⟩) 3 3, .slice (some ⟨w.heap.size + 1 + 1, 0, none⟩) 4 4, .slice (some ⟨w.heap.size + 1 + 1 + 1, 0, none⟩) 2 2] 26)).alloc (.cells #[.string ⟨#[118, 111, 105, 99, 101]⟩, .string ⟨#[115, 116, 111, 112]⟩, .string ⟨#[108, 111, 110, 103]⟩] 9)).alloc (.cells #[.string ⟨#[116]⟩, .int .u32 2, .int .u32 1, .string ⟨#[115]⟩, .int .u32 0, .int .u32 3, .string ⟨#[116, 115]⟩, .int .u32 0, .int .u32 1, .string ⟨#[97]⟩, .int .u32 1, .int .u32 2] 41)).alloc (.cells #[.string ⟨#[58]⟩, .int .u32 0, .int .u32 4, .int .u32 0, .string ⟨#[95]⟩, .int .u32 1, .int .u32 0, .int .u32 0] 58)) = W := ⟨_, rfl⟩
  rw [hW]
  obtain ⟨⟨k0, k1, k2, k3⟩, hz, hb⟩ := four_blks w _ _ _ _ _ _ _ _ hW
  have hfin : ExPost w (.returned (caseV (some ⟨w.heap.size + 1, 0, none⟩) (some ⟨w.heap.size + 1 + 1, 0, none⟩) (some ⟨w.heap.size + 1 + 1 + 1, 0, none⟩) 3 3 4 4 2 2)) W := by
    refine ⟨_, _, _, rfl, ⟨Nat.le_refl _, (reads_cells (n := 3) (k := 1) (cs := exF.map Value.string) k1 rfl).more (by omega), (reads_cells (n := 4) (k := 3) (cs := exL.flatMap namC) k2 rfl).more (by omega), (reads_cells (n := 2) (k := 4) (cs := exM.flatMap markC) k3 rfl).more (by omega), Nat.le_refl _, ⟨Nat.le_refl _, by decide⟩, Nat.le_refl _, ?_, ?_, ?_⟩, hb⟩
    · decide
    · intro x hx
      simp only [exL, List.mem_cons, List.not_mem_nil, or_false] at hx
      rcases hx with rfl | rfl | rfl | rfl <;> exact ⟨⟨by unfold is32; decide, by unfold is32; decide⟩, by decide⟩
    · intro x hx
      simp only [exM, List.mem_cons, List.not_mem_nil, or_false] at hx
      rcases hx with rfl | rfl <;> exact ⟨by unfold is32; decide, ⟨by unfold is32; decide, by unfold is32; decide⟩, by decide⟩
  have c0 := k0.cell 0; have c1 := k0.cell 1; have c2 := k0.cell 2
  simp only [List.getElem?_toArray, List.getElem?_cons_zero, List.getElem?_cons_succ] at c0 c1 c2
  have HFIN := Lib.hid hfin
  clear hfin hW
  exact bodyPost_ret (v := caseV (some ⟨w.heap.size + 1, 0, none⟩) (some ⟨w.heap.size + 1 + 1, 0, none⟩) (some ⟨w.heap.size + 1 + 1 + 1, 0, none⟩) 3 3 4 4 2 2) (by simp [results, Tryd.results25, go_sem, c0, c1, c2]) rfl HFIN.out
theorem ex_case : caseE exF exM = 0 := by
  unfold caseE
  rw [if_pos ex_new]
  exact ex_marks
set_option maxRecDepth 20000 in
set_option maxHeartbeats 2000000 in
theorem works_any (w : World) : Calls Tryd.prog 11 #[] w fun e w' => e = .returned (.bool true) ∧ Below w.heap.size w w' := by
  have hex := example_any w
  have HEX := Lib.hid hex
  clear hex
  go_enter Tryd.func11, Tryd.ntmps11
  go_wp2_with fail
  refine HEX.out.mono ?_
  rintro e w1 ⟨A1, A2, A3, rfl, hC, hb1⟩
  have hm := made_c hC
  have HM := Lib.hid hm; have HB1 := Lib.hid hb1
  clear hC hb1 hm HEX
  go_wp2_with fail
  refine HM.out.mono ?_
  rintro e w2 ⟨hb2, ⟨-, g, rfl, hn⟩ | ⟨hne, -⟩⟩
  rotate_left
  · exact absurd ex_case hne
  rw [show exF.length = 3 from rfl, ex_adds] at hn
  have hB2 := HB1.out.trans (hb2.mono HB1.out.size)
  have hz2 := hb2.size
  have HBW : Hid (w.heap.size ≤ w1.heap.size) := Lib.hid HB1.out.size
  have hp1 := parse_any (w := w2) ⟨#[116, 46, 115, 97]⟩ ⟨_, hn⟩ (by decide)
  rw [show bs ⟨#[116, 46, 115, 97]⟩ = [116, 46, 115, 97] from rfl, ex_read1] at hp1
  have HP1 := Lib.hid hp1; have HN := Lib.hid hn; have HB2 := Lib.hid hB2
  clear hp1 hn hB2 hb2 HM HB1
  go_wp2_with fail
  refine HP1.out.mono ?_
  rintro e w3 ⟨v, rfl, ho, hb3⟩
  obtain ⟨A, c, rfl, hc1, hc2⟩ := ownsRow_form ho
  have hn3 := HN.out.below hb3
  have hB3 := HB2.out.trans (hb3.mono HB2.out.size)
  have hz3 := hb3.size
  have hpr := print_any A 3 c [(2, 1), (0, 3), (1, 2)] (fun b => w2.heap.size ≤ b) hn3 (fun b hb => by have := hb.2; omega) (RowS.of_own ho (fun b hb' => (ho.lt b hb').1)) (fun b h1 h2 => by have := h2.2; omega) hc1 hc2 (by
    intro s hs
    simp only [List.mem_cons, List.not_mem_nil, or_false] at hs
    rcases hs with rfl | rfl | rfl <;> exact ⟨by unfold is32; decide, by unfold is32; decide⟩) (by omega)
  rw [ex_print] at hpr
  have HPR := Lib.hid hpr; have HB3 := Lib.hid hB3
  clear hpr hn3 hB3 hb3 ho HP1 HN HB2
  go_wp2_with fail
  refine HPR.out.mono ?_
  rintro e w4 ⟨rfl, hn4, hc4⟩
  have hs4 := hc4.size
  have hz34 : w.heap.size ≤ w3.heap.size := HB3.out.size
  have hB4 : Below w.heap.size w w4 := HB3.out.trans (hc4.below (B := w.heap.size) (fun i hi => by have := hi.1; have := HBW.out; omega) hz34)
  have hp2 := parse_any (w := w4) ⟨#[116, 46]⟩ ⟨_, hn4⟩ (by decide)
  rw [show bs ⟨#[116, 46]⟩ = [116, 46] from rfl, ex_read2] at hp2
  have HP2 := Lib.hid hp2; have HN4 := Lib.hid hn4; have HB4 := Lib.hid hB4
  clear hp2 hn4 hc4 hB4 HPR HB3
  go_wp2_with fail
  refine HP2.out.mono ?_
  rintro e w5 ⟨v5, rfl, ho5, hb5⟩
  obtain ⟨A5, c5, rfl, -, -⟩ := ownsRow_form ho5
  have hn5 := HN4.out.below hb5
  have hB5 := HB4.out.trans (hb5.mono HB4.out.size)
  have hz5 := hb5.size
  have hnm := normal_any (w := w5) ⟨#[116, 46, 97]⟩ hn5 (fun b hb => by have := hb.2; omega) (by decide) (by omega)
  rw [show bs ⟨#[116, 46, 97]⟩ = [116, 46, 97] from rfl, ex_normal] at hnm
  have HNM := Lib.hid hnm; have HB5 := Lib.hid hB5
  clear hnm hn5 hB5 hb5 ho5 HP2 HN4 HB4
  go_wp2_with fail
  refine HNM.out.mono ?_
  rintro e w6 ⟨rfl, -, hc6⟩
  have hz56 : w.heap.size ≤ w5.heap.size := HB5.out.size
  have hB6 : Below w.heap.size w w6 := HB5.out.trans (hc6.below (B := w.heap.size) (fun i hi => by have := hi.1; have := HBW.out; omega) hz56)
  have HB6 := Lib.hid hB6
  clear hB6 hc6 HNM HB5
  go_wp2
  go_ret
  exact ⟨rfl, HB6.out⟩
end Go.Proofs.YtohggdfplmlinaaDoor
