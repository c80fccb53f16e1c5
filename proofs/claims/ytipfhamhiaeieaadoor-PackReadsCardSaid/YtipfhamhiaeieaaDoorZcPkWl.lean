/-
  layer 43: the walk of works. Conditions: none.
-/
import Derived.Test.YtipfhamhiaeieaaDoorZcPkWk
import Derived.Lib.SlBytesConst
namespace Go.Proofs.YtipfhamhiaeieaaDoor
open Go.RowKit Go.Lib

/-- A row that a call made, as a slice that can be read. -/
theorem own_reads {w : World} {base : Nat} {e : TypeId} {size n : Nat} {v : Value} {xs : List Value} (h : w.ownsRow base e size v n xs) : ∃ A c, v = .slice A n c ∧ n ≤ c ∧ c ≤ maxLen ∧ Reads w w.heap.size size A n xs := by
  obtain ⟨A, c, rfl, h1, h2⟩ := ownsRow_form h
  exact ⟨A, c, rfl, h1, h2, Reads.of_own h⟩
theorem bv_lt_of {l : List Nat} (h : l.all (fun b => decide (b < 256)) = true) : ∀ b ∈ l, b < 256 := fun b hb => by simpa using List.all_eq_true.1 h b hb
theorem reads_mark (w : World) (t : TypeId) (k n : Nat) (xs : List Value) (fr : Nat × Nat) (hl : xs.length = n * k) : Reads (w.alloc (.cells xs.toArray t fr)) (w.heap.size + 1) k (some ⟨w.heap.size, 0, none⟩) n xs :=
  ⟨hl, fun _ => ⟨_, rfl, Nat.lt_succ_self _, fun j u hu => by rw [add_at, cell_of_row _ _ _ _ t fr (heap_alloc_new w _)]; simpa using hu⟩⟩
set_option maxRecDepth 20000 in
set_option maxHeartbeats 4000000 in
theorem works_any (w : World) : Calls Tryd.prog 12 #[] w fun e w' => e = .returned (.bool true) ∧ Below w.heap.size w w' := by
  have HST := Lib.hid (works_start w)
  go_enter Tryd.func12, Tryd.ntmps12
  go_wp2_with (refine store_new rfl _ _ _ rfl rfl rfl (by kernel_rfl) rfl rfl ?_; simp only [Act.put, List.setIfInBounds_toArray, List.set_cons_zero, List.set_cons_succ])
  obtain ⟨W, cs, hW, hF, hz⟩ := HST.out
  rw [hW]
  clear hW HST
  have hr := reads_lit W 24 2 2 [.int .u32 2, .int .u32 5, .int .u32 5, .int .u32 2] rfl
  rw [hz] at hr
  have hF1 := hF.alloc (.cells #[.int .u32 2, .int .u32 5, .int .u32 5, .int .u32 2] 24)
  have hz1 : (W.alloc (.cells #[.int .u32 2, .int .u32 5, .int .u32 5, .int .u32 2] 24)).heap.size = w.heap.size + 1 + 1 + 1 + 1 + 1 + 1 + 1 := by rw [World.size_alloc, hz]
  generalize W.alloc (.cells #[.int .u32 2, .int .u32 5, .int .u32 5, .int .u32 2] 24) = W1 at *
  have hput := putWord_any (some ⟨w.heap.size + 1 + 1 + 1 + 1 + 1 + 1, 0, none⟩) 2 2 _ [(2, 5), (5, 2)] W1 hr (by omega) (by decide) (by intro s hs; simp only [List.mem_cons, List.not_mem_nil, or_false] at hs; rcases hs with rfl | rfl <;> (unfold ok32 is32; decide))
  rw [putW_T, wordE_T] at hput
  have HF1 := Lib.hid hF1
  clear hF hF1 hr hz
  refine hput.mono ?_
  clear hput
  rintro e w2 ⟨v5, rfl, ho5, hb2⟩
  have hF2 := HF1.out.next hb2
  obtain ⟨A5, c5, rfl, hn5, hc5, hr5⟩ := own_reads ho5
  have HF2 := Lib.hid hF2; have HR5 : Hid (Reads w2 w2.heap.size 1 A5 5 (List.map bv [2, 2, 5, 5, 2])) := Lib.hid hr5
  clear ho5 hr5 hb2 hF2 hz1
  go_wp2_with fail
  have hr := reads_lit w2 5 1 6 [.int .u8 2, .int .u8 2, .int .u8 5, .int .u8 5, .int .u8 2, .int .u8 99] rfl
  have hb := (Below.refl w2.heap.size w2).alloc (Nat.le_refl _) (.cells #[.int .u8 2, .int .u8 2, .int .u8 5, .int .u8 5, .int .u8 2, .int .u8 99] 5)
  have hz3 : (w2.alloc (.cells #[.int .u8 2, .int .u8 2, .int .u8 5, .int .u8 5, .int .u8 2, .int .u8 99] 5)).heap.size = w2.heap.size + 1 := World.size_alloc _ _
  generalize w2.alloc (.cells #[.int .u8 2, .int .u8 2, .int .u8 5, .int .u8 5, .int .u8 2, .int .u8 99] 5) = w3 at *
  have hget := getWord_any w3 (some ⟨w2.heap.size, 0, none⟩) 6 6 _ [2, 2, 5, 5, 2, 99] hr (by omega) (by decide) (by decide) (by decide) (bv_lt_of (by decide))
  rw [getW_T] at hget
  replace hget : Calls Tryd.prog 23 #[.slice (some ⟨w2.heap.size, 0, none⟩) 6 6] w3 (fun e w' => ∃ v, e = .returned (.tuple #[v, .int .i64 5, .int .i64 0]) ∧ w'.ownsRow w3.heap.size 24 2 v 2 ([((2 : Nat), (5 : Nat)), (5, 2)].flatMap sndC) ∧ Below w3.heap.size w3 w') := hget
  have HB3 := Lib.hid hb; have HF3 := Lib.hid (HF2.out.next hb); have HR53 := Lib.hid (HR5.out.below hb)
  clear hb hr hz3 HF2 HR5
  refine hget.mono ?_
  clear hget
  rintro e w4 ⟨v7, rfl, ho7, hb4⟩
  obtain ⟨A7, c7, rfl, hn7, hc7, hr7⟩ := own_reads ho7
  have HF4 := Lib.hid (HF3.out.next hb4); have HR54 := Lib.hid ((HR53.out.below (hb4.mono HB3.out.size)).more (Nat.le_trans HB3.out.size hb4.size)); have HR7 : Hid (Reads w4 w4.heap.size 2 A7 2 ([((2 : Nat), (5 : Nat)), (5, 2)].flatMap sndC)) := Lib.hid hr7
  clear hb4 ho7 hr7 HR53 HF3 HB3
  have HLEN := Lib.hid (law_len HF4.out.law)
  have HB5 := Lib.hid HF4.out.b5
  go_wp2_with (refine law_load rfl _ rfl _ rfl _ HLEN.out HB5.out ?_; simp only [Act.put, List.setIfInBounds_toArray, List.set_cons_zero, List.set_cons_succ])
  have hpl := putLaw_any w4 (w.heap.size + 6) lawT cs HF4.out.law HF4.out.lt (by decide)
  rw [putL_T, lawE_T] at hpl
  refine hpl.mono ?_
  clear hpl
  rintro e w5 ⟨v10, rfl, ho10, hb5⟩
  obtain ⟨A10, c10, rfl, hn10, hc10, hr10⟩ := own_reads ho10
  have HF5 := Lib.hid (HF4.out.next hb5); have HR55 := Lib.hid ((HR54.out.below hb5).more hb5.size); have HR75 := Lib.hid ((HR7.out.below hb5).more hb5.size)
  have HR10 : Hid (Reads w5 w5.heap.size 1 A10 21 (List.map bv [1, 86, 1, 4, 0, 0, 1, 4, 0, 0, 1, 2, 0, 1, 1, 0, 1, 0, 0, 0, 1])) := Lib.hid hr10
  clear hb5 ho10 hr10 HR54 HR7 HF4 HB5
  go_wp2_with fail
  have hr := reads_lit w5 5 1 5 [.int .u8 2, .int .u8 2, .int .u8 5, .int .u8 5, .int .u8 2] rfl
  have hb := (Below.refl w5.heap.size w5).alloc (Nat.le_refl _) (.cells #[.int .u8 2, .int .u8 2, .int .u8 5, .int .u8 5, .int .u8 2] 5)
  have heq1 := bytesEq_any A5 (some ⟨w5.heap.size, 0, none⟩) 5 5 c5 5 (w5.heap.size + 1) [2, 2, 5, 5, 2] [2, 2, 5, 5, 2] _ ((HR55.out.below hb).more (by omega)) hr (bv_lt_of (by decide)) (bv_lt_of (by decide))
  rw [decide_eq_true rfl] at heq1
  have HF6 := Lib.hid (HF5.out.next hb); have HR76 := Lib.hid ((HR75.out.below hb).more hb.size); have HR106 := Lib.hid ((HR10.out.below hb).more hb.size)
  refine heq1.mono ?_
  clear heq1 hr hb HR55 HR75 HR10 HF5
  rintro e w6 ⟨rfl, hw6⟩
  rw [hw6] at HF6 HR76 HR106
  clear hw6
  have k1 := HF6.out.b1.cell 0
  have k2 := HF6.out.b1.cell 1
  have k3 := HF6.out.b2.cell 0
  have k4 := HF6.out.b2.cell 1
  simp only [List.getElem?_toArray, List.getElem?_cons_zero, List.getElem?_cons_succ] at k1 k2 k3 k4
  go_wp2_with fail
  have hr := reads_lit w6 24 2 2 [.int .u32 2, .int .u32 5, .int .u32 5, .int .u32 2] rfl
  have hb := (Below.refl w6.heap.size w6).alloc (Nat.le_refl _) (.cells #[.int .u32 2, .int .u32 5, .int .u32 5, .int .u32 2] 24)
  have hz : (w6.alloc (.cells #[.int .u32 2, .int .u32 5, .int .u32 5, .int .u32 2] 24)).heap.size = w6.heap.size + 1 := World.size_alloc _ _
  have heq2 := refEqual_any A7 (some ⟨w6.heap.size, 0, none⟩) 2 2 c7 2 (w6.heap.size + 1) [(2, 5), (5, 2)] [(2, 5), (5, 2)] _ ((HR76.out.below hb).more (by omega)) hr (by rw [hz]; exact Nat.le_refl _) (by decide)
  rw [decide_eq_true rfl] at heq2
  have HF7 := HF6.out.next hb; have HR107 := (HR106.out.below hb).more hb.size
  generalize w6.alloc (.cells #[.int .u32 2, .int .u32 5, .int .u32 5, .int .u32 2] 24) = w7 at *
  have HF7' := Lib.hid HF7; have HR107' := Lib.hid HR107
  refine heq2.mono ?_
  clear heq2 hr hb HR76 HR106 HF6 k1 k2 k3 k4 HF7 HR107 hz
  rintro e w8 ⟨rfl, _, hb8⟩
  have HF8 := Lib.hid (HF7'.out.next hb8); have HR108 := Lib.hid ((HR107'.out.below hb8)); have hz8 := hb8.size
  have HZ8 := Lib.hid hz8
  clear hb8 HF7' HR107' hz8
  go_wp2_with fail
  have hr := reads_lit w8 5 1 21 [.int .u8 1, .int .u8 86, .int .u8 1, .int .u8 4, .int .u8 0, .int .u8 0, .int .u8 1, .int .u8 4, .int .u8 0, .int .u8 0, .int .u8 1, .int .u8 2, .int .u8 0, .int .u8 1, .int .u8 1, .int .u8 0, .int .u8 1, .int .u8 0, .int .u8 0, .int .u8 0, .int .u8 1] rfl
  have hb := (Below.refl w8.heap.size w8).alloc (Nat.le_refl _) (.cells #[.int .u8 1, .int .u8 86, .int .u8 1, .int .u8 4, .int .u8 0, .int .u8 0, .int .u8 1, .int .u8 4, .int .u8 0, .int .u8 0, .int .u8 1, .int .u8 2, .int .u8 0, .int .u8 1, .int .u8 1, .int .u8 0, .int .u8 1, .int .u8 0, .int .u8 0, .int .u8 0, .int .u8 1] 5)
  have hz := HZ8.out
  have hsz : (w8.alloc (.cells #[.int .u8 1, .int .u8 86, .int .u8 1, .int .u8 4, .int .u8 0, .int .u8 0, .int .u8 1, .int .u8 4, .int .u8 0, .int .u8 0, .int .u8 1, .int .u8 2, .int .u8 0, .int .u8 1, .int .u8 1, .int .u8 0, .int .u8 1, .int .u8 0, .int .u8 0, .int .u8 0, .int .u8 1] 5)).heap.size = w8.heap.size + 1 := World.size_alloc _ _
  have hbq := bytesEq_any A10 (some ⟨w8.heap.size, 0, none⟩) 21 21 c10 21 (w8.heap.size + 1) [1, 86, 1, 4, 0, 0, 1, 4, 0, 0, 1, 2, 0, 1, 1, 0, 1, 0, 0, 0, 1] [1, 86, 1, 4, 0, 0, 1, 4, 0, 0, 1, 2, 0, 1, 1, 0, 1, 0, 0, 0, 1] _ (((HR108.out.more hz).below hb).more (by omega)) hr (bv_lt_of (by decide)) (bv_lt_of (by decide))
  rw [decide_eq_true rfl] at hbq
  have HF9 := Lib.hid (HF8.out.next hb)
  refine hbq.mono ?_
  clear hbq hr hb hz hsz HR108 HZ8 HF8
  rintro e w9 ⟨rfl, hw9⟩
  rw [hw9] at HF9
  clear hw9
  have kc := fun (W : World) (C : Array Value) (n c : Nat) => Lib.run_convert_bytes_const (P := Tryd.prog) W 35 5 C n c Tryd.underlying35 Tryd.underlying5
  go_wp2_with fail
  clear kc
  have hr : ReadB (w9.alloc (.cells #[.int .u8 49, .int .u8 50, .int .u8 51, .int .u8 52, .int .u8 53, .int .u8 54, .int .u8 55, .int .u8 56, .int .u8 57] 5 (9, 9 + 1))) (w9.alloc (.cells #[.int .u8 49, .int .u8 50, .int .u8 51, .int .u8 52, .int .u8 53, .int .u8 54, .int .u8 55, .int .u8 56, .int .u8 57] 5 (9, 9 + 1))).heap.size (some ⟨w9.heap.size, 0, none⟩) 9 [49, 50, 51, 52, 53, 54, 55, 56, 57] := by
    rw [World.size_alloc]
    exact reads_mark w9 5 1 9 [.int .u8 49, .int .u8 50, .int .u8 51, .int .u8 52, .int .u8 53, .int .u8 54, .int .u8 55, .int .u8 56, .int .u8 57] _ rfl
  have hsum := sum_any (some ⟨w9.heap.size, 0, none⟩) 9 9 _ _ hr (by decide)
  rw [show ([49, 50, 51, 52, 53, 54, 55, 56, 57] : List UInt8).map UInt8.toNat = [49, 50, 51, 52, 53, 54, 55, 56, 57] from rfl, sumB_T] at hsum
  have HF10 := Lib.hid (HF9.out.alloc (.cells #[.int .u8 49, .int .u8 50, .int .u8 51, .int .u8 52, .int .u8 53, .int .u8 54, .int .u8 55, .int .u8 56, .int .u8 57] 5 (9, 9 + 1)))
  refine hsum.mono ?_
  clear hsum hr HF9
  rintro e w10 ⟨rfl, hw10⟩
  rw [hw10] at HF10
  clear hw10
  go_wp2
  go_ret
  exact ⟨rfl, HF10.out.below⟩
end Go.Proofs.YtipfhamhiaeieaaDoor
