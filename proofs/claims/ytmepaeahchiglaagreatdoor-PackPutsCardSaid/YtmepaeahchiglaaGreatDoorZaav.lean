/-
  layer 43: the walk of works. Conditions: none.
-/
import Derived.Test.YtmepaeahchiglaaGreatDoorZaau
import Derived.Lib.SlBytesConst
import Derived.Test.YtmepaeahchiglaaGreatDoorZaao
import Derived.Test.YtmepaeahchiglaaGreatDoorZaat
namespace Go.Proofs.YtmepaeahchiglaaGreatDoor
open Go.RowKit Go.Lib

/-- A row that a call made, as a slice that can be read. -/
theorem own_reads {w : World} {base : Nat} {e : TypeId} {size n : Nat} {v : Value} {xs : List Value} (h : w.ownsRow base e size v n xs) : ∃ A c, v = .slice A n c ∧ n ≤ c ∧ c ≤ maxLen ∧ Reads w w.heap.size size A n xs := by
  obtain ⟨A, c, rfl, h1, h2⟩ := ownsRow_form h
  exact ⟨A, c, rfl, h1, h2, Reads.of_own h⟩
theorem bv_lt_of {l : List Nat} (h : l.all (fun b => decide (b < 256)) = true) : ∀ b ∈ l, b < 256 := fun b hb => by simpa using List.all_eq_true.1 h b hb
theorem reads_mark (w : World) (t : TypeId) (k n : Nat) (xs : List Value) (fr : Nat × Nat) (hl : xs.length = n * k) : Reads (w.alloc (.cells xs.toArray t fr)) (w.heap.size + 1) k (some ⟨w.heap.size, 0, none⟩) n xs :=
  ⟨hl, fun _ => ⟨_, rfl, Nat.lt_succ_self _, fun j u hu => by rw [add_at, cell_of_row _ _ _ _ t fr (heap_alloc_new w _)]; simpa using hu⟩⟩
set_option maxRecDepth 20000 in
set_option maxHeartbeats 4000000 in
theorem works_any (w : World) : Calls Tryz.prog 9 #[] w fun e w' => e = .returned (.bool true) ∧ Below w.heap.size w w' := by
  have HST := Lib.hid (works_start w)
  go_enter Tryz.func9, Tryz.ntmps9
  go_wp2_with (refine store_new rfl _ _ _ rfl rfl rfl (by kernel_rfl) rfl rfl ?_; simp only [Act.put, List.setIfInBounds_toArray, List.set_cons_zero, List.set_cons_succ])
  obtain ⟨W, cs, hW, hF, hz⟩ := HST.out
  rw [hW]
  clear hW HST
  have hr := reads_lit W 55 2 2 [.int .u32 2, .int .u32 5, .int .u32 5, .int .u32 2] rfl
  rw [hz] at hr
  have hF1 := hF.alloc (.cells #[.int .u32 2, .int .u32 5, .int .u32 5, .int .u32 2] 55)
  have hz1 : (W.alloc (.cells #[.int .u32 2, .int .u32 5, .int .u32 5, .int .u32 2] 55)).heap.size = w.heap.size + 1 + 1 + 1 + 1 + 1 + 1 + 1 := by rw [World.size_alloc, hz]
  generalize W.alloc (.cells #[.int .u32 2, .int .u32 5, .int .u32 5, .int .u32 2] 55) = W1 at *
  have hput := putWord_any (some ⟨w.heap.size + 1 + 1 + 1 + 1 + 1 + 1, 0, none⟩) 2 2 _ [(2, 5), (5, 2)] W1 hr (by omega) (by decide) (by intro s hs; simp only [List.mem_cons, List.not_mem_nil, or_false] at hs; rcases hs with rfl | rfl <;> (unfold ok32 is32; decide))
  rw [putW_T, wordE_T] at hput
  have HF1 := Lib.hid hF1
  clear hF hF1 hr hz
  refine hput.mono ?_
  clear hput
  rintro e w2 ⟨v5, rfl, ho5, hb2⟩
  have hF2 := HF1.out.next hb2
  obtain ⟨A5, c5, rfl, hn5, hc5, hr5⟩ := own_reads ho5
  have HF2 := Lib.hid hF2; have HR5 : Hid (Reads w2 w2.heap.size 1 A5 5 (List.map bv [2, 2, 5, 5, 2])) := Lib.hid hr5
  clear ho5 hr5 hb2 hF2 hz1
  go_wp2_with fail
  have hr := reads_lit w2 5 1 6 [.int .u8 2, .int .u8 2, .int .u8 5, .int .u8 5, .int .u8 2, .int .u8 99] rfl
  have hb := (Below.refl w2.heap.size w2).alloc (Nat.le_refl _) (.cells #[.int .u8 2, .int .u8 2, .int .u8 5, .int .u8 5, .int .u8 2, .int .u8 99] 5)
  have hz3 : (w2.alloc (.cells #[.int .u8 2, .int .u8 2, .int .u8 5, .int .u8 5, .int .u8 2, .int .u8 99] 5)).heap.size = w2.heap.size + 1 := World.size_alloc _ _
  generalize w2.alloc (.cells #[.int .u8 2, .int .u8 2, .int .u8 5, .int .u8 5, .int .u8 2, .int .u8 99] 5) = w3 at *
  have hget := getWord_any w3 (some ⟨w2.heap.size, 0, none⟩) 6 6 _ [2, 2, 5, 5, 2, 99] hr (by omega) (by decide) (by decide) (by decide) (bv_lt_of (by decide))
  rw [getW_T] at hget
  replace hget : Calls Tryz.prog 24 #[.slice (some ⟨w2.heap.size, 0, none⟩) 6 6] w3 (fun e w' => ∃ v, e = .returned (.tuple #[v, .int .i64 5, .int .i64 0]) ∧ w'.ownsRow w3.heap.size 55 2 v 2 ([((2 : Nat), (5 : Nat)), (5, 2)].flatMap sndC) ∧ Below w3.heap.size w3 w') := hget
  have HB3 := Lib.hid hb; have HF3 := Lib.hid (HF2.out.next hb); have HR53 := Lib.hid (HR5.out.below hb)
  clear hb hr hz3 HF2 HR5
  refine hget.mono ?_
  clear hget
  rintro e w4 ⟨v7, rfl, ho7, hb4⟩
  obtain ⟨A7, c7, rfl, hn7, hc7, hr7⟩ := own_reads ho7
  have HF4 := Lib.hid (HF3.out.next hb4); have HR54 := Lib.hid ((HR53.out.below (hb4.mono HB3.out.size)).more (Nat.le_trans HB3.out.size hb4.size)); have HR7 : Hid (Reads w4 w4.heap.size 2 A7 2 ([((2 : Nat), (5 : Nat)), (5, 2)].flatMap sndC)) := Lib.hid hr7
  clear hb4 ho7 hr7 HR53 HF3 HB3
  have HLEN := Lib.hid (law_len HF4.out.law)
  have HB5 := Lib.hid HF4.out.b5
  go_wp2_with (refine law_load rfl _ rfl _ rfl _ HLEN.out HB5.out ?_; simp only [Act.put, List.setIfInBounds_toArray, List.set_cons_zero, List.set_cons_succ])
  have hpl := putLaw_any w4 (w.heap.size + 6) lawT cs HF4.out.law HF4.out.lt (by decide)
  rw [putL_T, lawE_T] at hpl
  refine hpl.mono ?_
  clear hpl
  rintro e w5 ⟨v10, rfl, ho10, hb5⟩
  obtain ⟨A10, c10, rfl, hn10, hc10, hr10⟩ := own_reads ho10
  have HF5 := Lib.hid (HF4.out.next hb5); have HR55 := Lib.hid ((HR54.out.below hb5).more hb5.size); have HR75 := Lib.hid ((HR7.out.below hb5).more hb5.size)
  have HR10 : Hid (Reads w5 w5.heap.size 1 A10 21 (List.map bv [1, 86, 1, 4, 0, 0, 1, 4, 0, 0, 1, 2, 0, 1, 1, 0, 1, 0, 0, 0, 1])) := Lib.hid hr10
  clear hb5 ho10 hr10 HR54 HR7 HF4 HB5
  go_wp2_with fail
  have hr := reads_lit w5 5 1 5 [.int .u8 2, .int .u8 2, .int .u8 5, .int .u8 5, .int .u8 2] rfl
  have hb := (Below.refl w5.heap.size w5).alloc (Nat.le_refl _) (.cells #[.int .u8 2, .int .u8 2, .int .u8 5, .int .u8 5, .int .u8 2] 5)
  have heq1 := bytesEq_any A5 (some ⟨w5.heap.size, 0, none⟩) 5 5 c5 5 (w5.heap.size + 1) [2, 2, 5, 5, 2] [2, 2, 5, 5, 2] _ ((HR55.out.below hb).more (by omega)) hr (bv_lt_of (by decide)) (bv_lt_of (by decide))
  rw [decide_eq_true rfl] at heq1
  have HF6 := Lib.hid (HF5.out.next hb); have HR76 := Lib.hid ((HR75.out.below hb).more hb.size); have HR106 := Lib.hid ((HR10.out.below hb).more hb.size)
  refine heq1.mono ?_
  clear heq1 hr hb HR55 HR75 HR10 HF5
  rintro e w6 ⟨rfl, hw6⟩
  rw [hw6] at HF6 HR76 HR106
  clear hw6
  have k1 := HF6.out.b1.cell 0
  have k2 := HF6.out.b1.cell 1
  have k3 := HF6.out.b2.cell 0
  have k4 := HF6.out.b2.cell 1
  simp only [List.getElem?_toArray, List.getElem?_cons_zero, List.getElem?_cons_succ] at k1 k2 k3 k4
  go_wp2_with fail
  have hr := reads_lit w6 55 2 2 [.int .u32 2, .int .u32 5, .int .u32 5, .int .u32 2] rfl
  have hb := (Below.refl w6.heap.size w6).alloc (Nat.le_refl _) (.cells #[.int .u32 2, .int .u32 5, .int .u32 5, .int .u32 2] 55)
  have hz : (w6.alloc (.cells #[.int .u32 2, .int .u32 5, .int .u32 5, .int .u32 2] 55)).heap.size = w6.heap.size + 1 := World.size_alloc _ _
  have heq2 := refEqual_any A7 (some ⟨w6.heap.size, 0, none⟩) 2 2 c7 2 (w6.heap.size + 1) [(2, 5), (5, 2)] [(2, 5), (5, 2)] _ ((HR76.out.below hb).more (by omega)) hr (by rw [hz]; exact Nat.le_refl _) (by decide)
  rw [decide_eq_true rfl] at heq2
  have HF7 := HF6.out.next hb; have HR107 := (HR106.out.below hb).more hb.size
  generalize w6.alloc (.cells #[.int .u32 2, .int .u32 5, .int .u32 5, .int .u32 2] 55) = w7 at *
  have HF7' := Lib.hid HF7; have HR107' := Lib.hid HR107
  refine heq2.mono ?_
  clear heq2 hr hb HR76 HR106 HF6 k1 k2 k3 k4 HF7 HR107 hz
  rintro e w8 ⟨rfl, _, hb8⟩
  have HF8 := Lib.hid (HF7'.out.next hb8); have HR108 := Lib.hid ((HR107'.out.below hb8)); have hz8 := hb8.size
  have HZ8 := Lib.hid hz8
  clear hb8 HF7' HR107' hz8
  go_wp2_with fail
  have hr := reads_lit w8 5 1 21 [.int .u8 1, .int .u8 86, .int .u8 1, .int .u8 4, .int .u8 0, .int .u8 0, .int .u8 1, .int .u8 4, .int .u8 0, .int .u8 0, .int .u8 1, .int .u8 2, .int .u8 0, .int .u8 1, .int .u8 1, .int .u8 0, .int .u8 1, .int .u8 0, .int .u8 0, .int .u8 0, .int .u8 1] rfl
  have hb := (Below.refl w8.heap.size w8).alloc (Nat.le_refl _) (.cells #[.int .u8 1, .int .u8 86, .int .u8 1, .int .u8 4, .int .u8 0, .int .u8 0, .int .u8 1, .int .u8 4, .int .u8 0, .int .u8 0, .int .u8 1, .int .u8 2, .int .u8 0, .int .u8 1, .int .u8 1, .int .u8 0, .int .u8 1, .int .u8 0, .int .u8 0, .int .u8 0, .int .u8 1] 5)
  have hz := HZ8.out
  have hsz : (w8.alloc (.cells #[.int .u8 1, .int .u8 86, .int .u8 1, .int .u8 4, .int .u8 0, .int .u8 0, .int .u8 1, .int .u8 4, .int .u8 0, .int .u8 0, .int .u8 1, .int .u8 2, .int .u8 0, .int .u8 1, .int .u8 1, .int .u8 0, .int .u8 1, .int .u8 0, .int .u8 0, .int .u8 0, .int .u8 1] 5)).heap.size = w8.heap.size + 1 := World.size_alloc _ _
  have hbq := bytesEq_any A10 (some ⟨w8.heap.size, 0, none⟩) 21 21 c10 21 (w8.heap.size + 1) [1, 86, 1, 4, 0, 0, 1, 4, 0, 0, 1, 2, 0, 1, 1, 0, 1, 0, 0, 0, 1] [1, 86, 1, 4, 0, 0, 1, 4, 0, 0, 1, 2, 0, 1, 1, 0, 1, 0, 0, 0, 1] _ (((HR108.out.more hz).below hb).more (by omega)) hr (bv_lt_of (by decide)) (bv_lt_of (by decide))
  rw [decide_eq_true rfl] at hbq
  have HF9 := Lib.hid (HF8.out.next hb)
  refine hbq.mono ?_
  clear hbq hr hb hz hsz HR108 HZ8 HF8
  rintro e w9 ⟨rfl, hw9⟩
  rw [hw9] at HF9
  clear hw9
  have kc := fun (W : World) (C : Array Value) (n c : Nat) => Lib.run_convert_bytes_const (P := Tryz.prog) W 36 5 C n c Tryz.underlying36 Tryz.underlying5
  go_wp2_with fail
  clear kc
  have hr : ReadB (w9.alloc (.cells #[.int .u8 49, .int .u8 50, .int .u8 51, .int .u8 52, .int .u8 53, .int .u8 54, .int .u8 55, .int .u8 56, .int .u8 57] 5 (9, 9 + 1))) (w9.alloc (.cells #[.int .u8 49, .int .u8 50, .int .u8 51, .int .u8 52, .int .u8 53, .int .u8 54, .int .u8 55, .int .u8 56, .int .u8 57] 5 (9, 9 + 1))).heap.size (some ⟨w9.heap.size, 0, none⟩) 9 [49, 50, 51, 52, 53, 54, 55, 56, 57] := by
    rw [World.size_alloc]
    exact reads_mark w9 5 1 9 [.int .u8 49, .int .u8 50, .int .u8 51, .int .u8 52, .int .u8 53, .int .u8 54, .int .u8 55, .int .u8 56, .int .u8 57] _ rfl
  have hsum := sum_any (some ⟨w9.heap.size, 0, none⟩) 9 9 _ _ hr (by decide)
  rw [show ([49, 50, 51, 52, 53, 54, 55, 56, 57] : List UInt8).map UInt8.toNat = [49, 50, 51, 52, 53, 54, 55, 56, 57] from rfl, sumB_T] at hsum
  have HF10 := Lib.hid (HF9.out.alloc (.cells #[.int .u8 49, .int .u8 50, .int .u8 51, .int .u8 52, .int .u8 53, .int .u8 54, .int .u8 55, .int .u8 56, .int .u8 57] 5 (9, 9 + 1)))
  refine hsum.mono ?_
  clear hsum hr HF9
  rintro e w10 ⟨rfl, hw10⟩
  rw [hw10] at HF10
  clear hw10
  go_wp2
  go_ret
  exact ⟨rfl, HF10.out.below⟩
end Go.Proofs.YtmepaeahchiglaaGreatDoor
namespace Go.Proofs.YtmepaeahchiglaaGreatDoor
open Go.RowKit Go.Lib

theorem numB_lt (n : Nat) : ∀ b ∈ numB n, b < 256 := numK_lt 5 n
theorem sndB_lt (s : Snd) : ∀ b ∈ sndB s, b < 256 := by
  intro b hb
  unfold sndB at hb
  rcases List.mem_append.1 hb with h | h <;> exact numB_lt _ b h
end Go.Proofs.YtmepaeahchiglaaGreatDoor
namespace Go.Proofs.YtmepaeahchiglaaGreatDoor
open Go.RowKit Go.Lib

theorem patB_lt : ∀ p : Pt, ∀ b ∈ patB p, b < 256 := by
  have h : ∀ m (p : Pt), ptSize p ≤ m → ∀ b ∈ patB p, b < 256 := by
    intro m
    induction m with
    | zero => intro p hp; have := ptSize_pos p; omega
    | succ m ih =>
      rintro ⟨k, s, neg, lo, hi, l⟩ hp b hb
      rw [ptSize_mk] at hp
      have hl : ∀ b ∈ patsB l, b < 256 := by
        intro b hb
        rw [patsB_flat] at hb
        obtain ⟨q, hq, hb⟩ := List.mem_flatMap.1 hb
        exact ih q (by have := ptSize_mem hq; omega) b hb
      rw [patB_mk] at hb
      rcases List.mem_append.1 hb with hb | hb
      · exact numB_lt _ b hb
      split at hb
      · rcases List.mem_append.1 hb with hb | hb
        · exact sndB_lt _ b hb
        · exact numB_lt _ b hb
      · split at hb
        · rcases List.mem_append.1 hb with hb | hb
          · exact numB_lt _ b hb
          · exact hl b hb
        · split at hb
          · rcases List.mem_append.1 hb with hb | hb
            · exact numB_lt _ b hb
            rcases List.mem_append.1 hb with hb | hb
            · exact numB_lt _ b hb
            · exact hl b hb
          · cases hb
  exact fun p => h _ p (Nat.le_refl _)
theorem outB_lt (x : Ot) : ∀ b ∈ outB x, b < 256 := by
  intro b hb
  unfold outB at hb
  rcases List.mem_append.1 hb with hb | hb
  · exact numB_lt _ b hb
  rcases List.mem_append.1 hb with hb | hb
  · exact numB_lt _ b hb
  rcases List.mem_append.1 hb with hb | hb
  · exact sndB_lt _ b hb
  rcases List.mem_append.1 hb with hb | hb
  · exact numB_lt _ b hb
  · exact numB_lt _ b hb
theorem textB_lt (s : ByteArray) : ∀ b ∈ textB s, b < 256 := by
  intro b hb
  unfold textB at hb
  rcases List.mem_append.1 hb with hb | hb
  · exact numB_lt _ b hb
  · unfold sbytes at hb
    obtain ⟨u, _, rfl⟩ := List.mem_map.1 hb
    exact u.toNat_lt
theorem wordB_lt (ws : List Snd) : ∀ b ∈ wordB ws, b < 256 := by
  intro b hb
  unfold wordB allB at hb
  rcases List.mem_append.1 hb with h | h
  · exact numB_lt _ b h
  · obtain ⟨s, _, hs⟩ := List.mem_flatMap.1 h
    exact sndB_lt s b hs
theorem lawB_lt (l : Lw) : ∀ b ∈ lawB l, b < 256 := by
  intro b hb
  unfold lawB at hb
  rcases List.mem_append.1 hb with hb | hb
  · exact textB_lt _ b hb
  rcases List.mem_append.1 hb with hb | hb
  · exact patB_lt _ b hb
  rcases List.mem_append.1 hb with hb | hb
  · exact patB_lt _ b hb
  rcases List.mem_append.1 hb with hb | hb
  · exact wordB_lt _ b hb
  rcases List.mem_append.1 hb with hb | hb
  · unfold outsB allB at hb
    rcases List.mem_append.1 hb with h | h
    · exact numB_lt _ b h
    · obtain ⟨s, _, hs⟩ := List.mem_flatMap.1 h
      exact outB_lt s b hs
  · exact numB_lt _ b hb
/-- The bytes of a valid law are few. -/
theorem lawB_len {l : Lw} (h : okLaw l) : (lawB l).length ≤ 100000 := by
  obtain ⟨nm, left, right, ifs, outs, mode⟩ := l
  obtain ⟨hnm, ⟨-, hz1⟩, ⟨-, hz2⟩, hm3, hm4, -, -, -⟩ := h
  simp only at hnm hz1 hz2 hm3 hm4
  have e1 : (textB nm).length ≤ 1005 := by unfold textB; rw [List.length_append, sbytes_len]; have := numB_len nm.size; omega
  have e2 := patB_len left
  have e3 := patB_len right
  have e4 := wordB_len ifs
  have e5 : (outsB outs).length ≤ 5 + 30 * outs.length := by
    show (numB outs.length ++ outs.flatMap outB).length ≤ _
    rw [List.length_append]
    have := numB_len outs.length
    have := flatB_len outB_len outs
    omega
  have e6 := numB_len mode.toNat
  unfold lawB
  simp only [List.length_append]
  omega
end Go.Proofs.YtmepaeahchiglaaGreatDoor
namespace Go.Proofs.YtmepaeahchiglaaGreatDoor
open Go.RowKit Go.Lib

theorem consC_size {p : UInt8 → Bool} {m : Nat} {s : ByteArray} (h : consC p m s = true) : s.size ≤ m := by
  unfold consC at h
  simp only [Bool.and_eq_true, decide_eq_true_eq] at h
  exact h.1.2
theorem newE_small {fs : List ByteArray} (h : newE fs = 0) : fs.length ≤ 24 ∧ ∀ s ∈ fs, s.size ≤ 16 := by
  unfold newE at h
  by_cases h1 : 24 < fs.length
  · rw [if_pos h1] at h; cases h
  · rw [if_neg h1] at h
    by_cases h2 : fs.all okFeat = true
    · refine ⟨by omega, fun s hs => ?_⟩
      have := List.all_eq_true.1 h2 s hs
      unfold okFeat at this
      rw [Bool.and_eq_true] at this
      exact consC_size this.1
    · rw [if_neg h2] at h; cases h
theorem addE_small {n : Nat} {L : List Nam} {sy : ByteArray} {s : Snd} (h : addE n L sy s = 0) : sy.size ≤ 4 ∧ L.length ≠ 256 := by
  unfold addE at h
  by_cases h1 : okSym sy = true
  · rw [if_pos h1] at h
    by_cases h2 : belongs n s = true
    · rw [if_pos h2] at h
      by_cases h3 : (hasSym L (bs sy) || hasVal L s) = true
      · rw [if_pos h3] at h; cases h
      · rw [if_neg h3] at h
        by_cases h4 : L.length = 256
        · rw [if_pos h4] at h; cases h
        · exact ⟨consC_size h1, h4⟩
    · rw [if_neg h2] at h; cases h
  · rw [if_neg h1] at h; cases h
theorem addsE_small {n : Nat} : ∀ {l L : List Nam}, addsE n L l = 0 → L.length ≤ 256 → (L.length + l.length ≤ 256) ∧ ∀ x ∈ l, x.1.size ≤ 4
  | [], L, _, hL => ⟨by simpa using hL, fun x hx => by cases hx⟩
  | y :: l, L, h, hL => by
    have h' : (if addE n L y.1 y.2 = 0 then addsE n (L ++ [y]) l else addE n L y.1 y.2) = 0 := h
    by_cases h1 : addE n L y.1 y.2 = 0
    · rw [if_pos h1] at h'
      have h2 := addE_small h1
      obtain ⟨h3, h4⟩ := addsE_small h' (by rw [List.length_append]; simp only [List.length_cons, List.length_nil]; omega)
      rw [List.length_append] at h3
      simp only [List.length_cons, List.length_nil] at h3 ⊢
      refine ⟨by omega, fun x hx => ?_⟩
      rcases List.mem_cons.1 hx with rfl | hx
      · exact h2.1
      · exact h4 x hx
    · rw [if_neg h1] at h'; exact absurd h' h1
theorem notE_small {n : Nat} : ∀ {l pre : List Mk}, notE n pre l = 0 → ∀ x ∈ l, x.text.size ≤ 3
  | [], _, _, x, hx => by cases hx
  | y :: l, pre, h, x, hx => by
    have h' : (if markE n pre y = 0 then notE n (pre ++ [y]) l else markE n pre y) = 0 := h
    by_cases h1 : markE n pre y = 0
    · rw [if_pos h1] at h'
      rcases List.mem_cons.1 hx with rfl | hx
      · unfold markE at h1
        by_cases h2 : okMark x.text = true
        · exact consC_size h2
        · rw [if_neg h2] at h1; cases h1
      · exact notE_small h' x hx
    · rw [if_neg h1] at h'; exact absurd h' h1
theorem notK_small {n : Nat} {ms : List Mk} (h : notK n ms = 0) : ms.length ≤ 32 ∧ ∀ x ∈ ms, x.text.size ≤ 3 := by
  unfold notK at h
  by_cases h1 : 32 < ms.length
  · rw [if_pos h1] at h; cases h
  · rw [if_neg h1] at h; exact ⟨by omega, notE_small h⟩
theorem okName_size {s : ByteArray} (h : okName s = true) : s.size ≤ 24 := by
  unfold okName at h
  simp only [Bool.and_eq_true, decide_eq_true_eq] at h
  exact h.1.2
theorem treeE_small {t : List Nd} (h : treeE t = 0) : t.length ≤ 63 ∧ ∀ x ∈ t, -1 ≤ x.1 ∧ x.1 < 63 ∧ x.2.size ≤ 24 := by
  obtain ⟨h1, -, h3⟩ := treeE_nodes h
  refine ⟨h1, fun x hx => ?_⟩
  obtain ⟨i, hi, rfl⟩ := List.getElem_of_mem hx
  have h4 := h3 i hi
  have h5 := ndOk_par h4
  unfold ndOk at h4
  rw [Bool.and_eq_true] at h4
  refine ⟨by omega, by omega, okName_size h4.2⟩
theorem on_small {t : List Nd} {on : List (List Int)} {k : Nat} (h : lensOk t on k = true) {i : Nat} (hi : i < k) (hio : i < on.length) : on[i].length ≤ 64 := by
  unfold lensOk at h
  have h1 := List.all_eq_true.1 h _ (lens_mem t on hi)
  rw [decide_eq_true_eq] at h1
  have h2 : (on[i]?.getD []).length ≤ lenK t on i := by unfold lenK; omega
  rw [List.getElem?_eq_getElem hio, Option.getD_some] at h2
  omega
theorem wordsE_small : ∀ {l : List Fm}, wordsE l = 0 → ∀ f ∈ l, f.w.length ≤ 32
  | [], _, f, hf => by cases hf
  | y :: l, h, f, hf => by
    rw [wordsE_cons] at h
    by_cases h1 : wordE y.w = 0
    · rw [if_pos h1] at h
      rcases List.mem_cons.1 hf with rfl | hf
      · exact wordE_len h1
      · exact wordsE_small h f hf
    · rw [if_neg h1] at h; exact absurd h h1
theorem entsW_small : ∀ {l : List En}, entsW l = 0 → ∀ x ∈ l, ∀ f ∈ x.forms, f.w.length ≤ 32
  | [], _, x, hx => by cases hx
  | y :: l, h, x, hx => by
    have h' : (if wordsE y.forms = 0 then entsW l else wordsE y.forms) = 0 := h
    by_cases h1 : wordsE y.forms = 0
    · rw [if_pos h1] at h'
      rcases List.mem_cons.1 hx with rfl | hx
      · exact wordsE_small h1
      · exact entsW_small h' x hx
    · rw [if_neg h1] at h'; exact absurd h' h1
theorem leafs_len (t : List Nd) : (leafs t).length ≤ t.length := by
  unfold leafs
  exact Nat.le_trans (List.length_filter_le _ _) (by simp)
theorem entsE_small {n : Nat} {es : List En} (h : entsE n es = 0) : ∀ x ∈ es, x.forms.length = n ∧ x.gloss.size ≤ 24 := by
  unfold entsE at h
  by_cases h1 : es.all (entOk n) = true
  · rw [if_pos h1] at h
    by_cases h2 : es.all (fun x => okName x.gloss) = true
    · intro x hx
      have h3 := List.all_eq_true.1 h1 x hx
      unfold entOk at h3
      rw [Bool.and_eq_true, decide_eq_true_eq] at h3
      exact ⟨h3.1, okName_size (List.all_eq_true.1 h2 x hx)⟩
    · rw [if_neg h2] at h; cases h
  · rw [if_neg h1] at h; cases h
theorem attE_small {t : List Nd} {laws : List Lw} {on : List (List Int)} {protos : List Fm} {es : List En} (h : attE t laws on protos es = 0) :
    histE t laws on = 0 ∧ es.length ≤ 256 ∧ protos.length = es.length ∧ entsE (leafs t).length es = 0 ∧ wordsE protos = 0 ∧ entsW es = 0 := by
  rw [attE_eq] at h
  by_cases h1 : histE t laws on = 0
  case neg => rw [if_neg h1] at h; exact absurd h h1
  rw [if_pos h1] at h
  by_cases h2 : 256 < es.length
  · rw [if_pos h2] at h; cases h
  rw [if_neg h2] at h
  by_cases h3 : protos.length = es.length ∧ emptyF protos = true
  case neg => rw [if_neg h3] at h; cases h
  rw [if_pos h3] at h
  by_cases h4 : entsE (leafs t).length es = 0
  case neg => rw [if_neg h4] at h; exact absurd h h4
  rw [if_pos h4] at h
  by_cases h5 : wordsE protos = 0
  case neg => rw [if_neg h5] at h; exact absurd h h5
  rw [if_pos h5] at h
  exact ⟨h1, by omega, h3.1, h4, h5, h⟩
theorem PjOk.of {p : Pj} (h : projE p = 0) (hr : PjRd p) (h32 : ∀ l ∈ p.laws, ∀ x ∈ l.outs, is32 x.clear ∧ ok32 x.set ∧ is32 x.take) : PjOk p := by
  unfold projE at h
  by_cases h1 : toolsE p = 0
  case neg => rw [if_neg h1] at h; exact absurd h h1
  rw [if_pos h1] at h
  unfold toolsE at h1
  by_cases h2 : newE p.feats = 0
  case neg => rw [if_neg h2] at h1; exact absurd h1 h2
  rw [if_pos h2] at h1
  by_cases h3 : addsE p.feats.length [] p.sounds = 0
  case neg => rw [if_neg h3] at h1; exact absurd h1 h3
  rw [if_pos h3] at h1
  obtain ⟨a1, a2⟩ := newE_small h2
  obtain ⟨b1, b2⟩ := addsE_small h3 (by simp)
  obtain ⟨c1, c2⟩ := notK_small h1
  obtain ⟨d1, d2, d3, d4, d5, d6⟩ := attE_small h
  obtain ⟨e1, e2, e3, e4, e5, e6⟩ := histE_parts d1
  obtain ⟨f1, f2⟩ := treeE_small e1
  simp only [List.length_nil] at b1
  have hleaf := leafs_len p.tree
  refine ⟨by omega, by omega, by omega, by omega, by omega, by omega, by omega, by omega, fun x hx => ?_, fun x hx => ?_, fun x hx => ?_, fun x hx => ?_, fun x hx => ?_, fun l hl => ?_, fun x hx => ?_, fun x hx => ?_⟩
  · have := a2 x hx; omega
  · have := b2 x hx; exact ⟨by omega, (hr.o2 x hx).2⟩
  · have := c2 x hx; exact ⟨by omega, (hr.o3 x hx).1, (hr.o3 x hx).2.1⟩
  · have := f2 x hx; exact ⟨by omega, by omega, by omega⟩
  · have := okLaw_of (e3 x hx) (h32 x hx)
    exact ⟨this, lawB_len this⟩
  · obtain ⟨i, hi, rfl⟩ := List.getElem_of_mem hl
    have := on_small e5 hi hi
    refine ⟨by omega, fun x hx => ?_⟩
    have h7 := List.all_eq_true.1 (List.all_eq_true.1 e6 _ hl) x hx
    rw [decide_eq_true_eq] at h7
    exact ⟨h7.1, by omega⟩
  · have := wordsE_small d5 x hx; exact ⟨by omega, hr.o7 x hx⟩
  · have g1 := entsE_small d4 x hx
    have g2 := entsW_small d6 x hx
    exact ⟨by omega, by omega, fun f hf => ⟨by have := g2 f hf; omega, (hr.o8 x hx).2 f hf⟩⟩
end Go.Proofs.YtmepaeahchiglaaGreatDoor
