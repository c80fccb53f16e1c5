/-
  layer 43: the writer's lists of a project. Conditions: things of the reach; numbers of 32 bits. (Printed by pjw.py.)
-/
import Derived.Test.YtmepaeahchiglaaGreatDoorZbam
namespace Go.Proofs.YtmepaeahchiglaaGreatDoor
open Go.RowKit Go.Lib

theorem flatB_mem {α : Type} {put : α → List Nat} {m : Nat} : ∀ {l : List α}, (∀ x ∈ l, (put x).length ≤ m) → (l.flatMap put).length ≤ m * l.length
  | [], _ => by simp
  | x :: l, h => by
    rw [List.flatMap_cons, List.length_append, List.length_cons, Nat.mul_succ]
    have := h x List.mem_cons_self
    have := flatB_mem (l := l) fun y hy => h y (List.mem_cons_of_mem _ hy)
    omega
theorem nmdB_len (x : Nam) : (nmdB x).length ≤ 15 + x.1.size := by
  have := textB_len x.1
  have := sndB_len x.2
  unfold nmdB; rw [List.length_append]; omega
theorem mkdB_len (x : Mk) : (mkdB x).length ≤ 20 + x.text.size := by
  have := textB_len x.text
  have := numB_len x.clear
  have := sndB_len x.set
  unfold mkdB; rw [List.length_append, List.length_append]; omega
theorem ndB_len (x : Nd) : (ndB x).length ≤ 10 + x.2.size := by
  have := textB_len x.2
  have := numB_len (x.1 + 1).toNat
  unfold ndB; rw [List.length_append]; omega
theorem wordB_len' (ws : List Snd) : (wordB ws).length ≤ 5 + 10 * ws.length := by
  have := numB_len ws.length
  have := flatB_len sndB_len ws
  show (numB ws.length ++ ws.flatMap sndB).length ≤ _
  rw [List.length_append]; omega
theorem formB_len (f : Fm) : (formB f).length ≤ 10 + 10 * f.w.length := by
  have h1 : (flagB f.has).length ≤ 5 := numB_len _
  have := wordB_len' f.w
  unfold formB
  rw [List.length_append]
  split
  · omega
  · simp only [List.length_nil]; omega
theorem formsB_len {l : List Fm} (h : ∀ f ∈ l, f.w.length ≤ 1000) : (allB formB l).length ≤ 5 + 10010 * l.length := by
  have := numB_len l.length
  have := flatB_mem (put := formB) (m := 10010) (l := l) fun f hf => by have := formB_len f; have := h f hf; omega
  show (numB l.length ++ l.flatMap formB).length ≤ _
  rw [List.length_append]; omega
set_option maxRecDepth 20000 in
set_option maxHeartbeats 2000000 in
theorem allNmd_any (w : World) (base g h0 B : Nat) (v : Value) (l : List Nam) (xs : List Nat) (h : Wr w base g xs) (hh : Blk w h0 142 #[wptr g]) (hs : SlC NmdC 3 w B l v) (hB : B ≤ base) (hn : l.length ≤ 1000000) (hok : ∀ x ∈ l, x.1.size ≤ 1000 ∧ ok32 x.2) (hx : xs.length + 5 + 1015 * l.length ≤ CAP) :
    Calls Tryz.prog 86 #[wptr g, v, .func (.func 87) #[] #[wptr h0]] w fun e w' => e = .returned (.tuple #[]) ∧ Wr w' base g (xs ++ allB nmdB l) ∧ WStep g w w' := by
  obtain ⟨A, n, c, rfl, hnl⟩ := hs.form
  have hc1 := count_any w base g n xs h (by omega) (by unfold CAP at *; omega)
  have hl := numB_len n
  have HNL := Lib.hid hnl
  have hgh : h0 ≠ g := fun e => by
    subst e
    obtain ⟨v, b1, _⟩ := h
    exact Blk.ne_ b1 hh (by decide) rfl
  have HHB := Lib.hid hh
  clear hh
  have HH := Lib.hid h; have HSL := Lib.hid hs; have HOK := Lib.hid hok
  clear h hs hok hnl
  go_enter Tryz.func86, Tryz.ntmps86
  go_wp2_with fail
  refine hc1.mono ?_
  rintro e w1 ⟨rfl, h1, h2⟩
  have HW := Lib.hid h1; have HST := Lib.hid h2
  clear h1 h2 hc1
  go_wp2
  go_loopw [14] (fun i wr => ∃ k : Nat, k ≤ n ∧ i = .int .i64 k ∧ Wr wr base g (xs ++ numB n ++ (l.take k).flatMap nmdB) ∧ WStep g w wr) (fun i _ => n - (RowKit.intOf i).toNat)
  case atStart => exact ⟨0, by omega, rfl, by simpa using HW.out, HST.out⟩
  case round =>
    obtain ⟨k, hk, rfl, hwr, hst⟩ := hrel
    have HWR := Lib.hid hwr; have HST2 := Lib.hid hst
    clear hwr hst
    by_cases hlt : k < n
    · have hkl : k < l.length := by have := HNL.out; omega
      have hkI : (k : Int) < (n : Int) := by omega
      have hk0 : (0 : Int) ≤ (k : Int) := by omega
      have hkeep : ∀ p : Addr, p.block < B → wr.cell? p = w.cell? p := fun p hp => (HST2.out.below HH.out).cell (Nat.lt_of_lt_of_le hp hB)
      obtain ⟨ad, cs, rfl, had, hP, hcc⟩ := slC_cells (w := wr) (by intro x cs h; rw [show cs = _ from h]; rfl) (SlC.plain hkeep HSL.out (fun _ _ h => h)) hkl
      have hlen : (xs ++ numB n ++ (l.take k).flatMap nmdB).length + 1015 ≤ CAP := by
        have hm : ∀ x ∈ l.take k, (nmdB x).length ≤ 1015 := fun x hx => by
          have hx := HOK.out x (List.mem_of_mem_take hx)
          have := nmdB_len x; have := hx.1; omega
        have h2 := flatB_mem hm
        rw [List.length_append, List.length_append]
        rw [List.length_take] at h2
        have h3 : 1015 * (min k l.length) + 1015 ≤ 1015 * l.length := by
          rw [Nat.min_eq_left (Nat.le_of_lt hkl), ← Nat.mul_succ]
          exact Nat.mul_le_mul_left _ hkl
        have := HNL.out
        omega
      have hts := take_flat nmdB l k hkl
      have hokx := HOK.out _ (List.getElem_mem hkl)
      have HTS := Lib.hid hts; have HLEN := Lib.hid hlen; have HOKX := Lib.hid hokx; have HKEEP := Lib.hid hkeep
      clear hts hlen hokx hkeep
      generalize l[k] = x at *
      obtain rfl : cs = namC x := hP
      have e0 := hcc 0 _ rfl
      rw [Nat.add_zero] at e0
      have e1 := hcc 1 _ rfl
      rw [add_next ad (k * 3) 0] at e1
      have e2 := hcc 2 _ rfl
      rw [add_next ad (k * 3) 1] at e2
      clear hcc
      have hwa := HWR.out.alloc (.cells #[.string x.1, .int .u32 x.2.1, .int .u32 x.2.2] 74)
      have hsa := HST2.out.alloc HWR.out.lt (.cells #[.string x.1, .int .u32 x.2.1, .int .u32 x.2.2] 74)
      have hha := (HST2.out.blk HH.out HHB.out (by decide) hgh).alloc (.cells #[.string x.1, .int .u32 x.2.1, .int .u32 x.2.2] 74)
      have hcall := nmd_any _ base g h0 x _ hwa hha HOKX.out.1 HOKX.out.2 HLEN.out
      have HCALL := Lib.hid hcall; have HSA := Lib.hid hsa
      clear hcall hwa hsa hha
      go_wp2_with fail
      refine HCALL.out.mono ?_
      rintro e w2 ⟨rfl, h3, h4⟩
      have H3 := Lib.hid h3; have H4 := Lib.hid h4
      clear h3 h4
      go_wp2
      go_roundw
      case rel => exact ⟨k + 1, by omega, by go_num, by rw [HTS.out, ← List.append_assoc]; exact H3.out, HSA.out.trans H4.out⟩
      case measure => simp [RowKit.intOf]; omega
    · obtain rfl : k = n := by omega
      go_wp2
      go_end0
      refine ⟨rfl, ?_, HST2.out⟩
      have := HWR.out
      rw [List.take_of_length_le (by have := HNL.out; omega), List.append_assoc] at this
      show Wr wr base g (xs ++ (numB l.length ++ l.flatMap nmdB))
      rw [← HNL.out]; exact this
set_option maxRecDepth 20000 in
set_option maxHeartbeats 2000000 in
theorem allMkd_any (w : World) (base g h0 B : Nat) (v : Value) (l : List Mk) (xs : List Nat) (h : Wr w base g xs) (hh : Blk w h0 142 #[wptr g]) (hs : SlC MkdC 4 w B l v) (hB : B ≤ base) (hn : l.length ≤ 1000000) (hok : ∀ x ∈ l, x.text.size ≤ 1000 ∧ is32 x.clear ∧ ok32 x.set) (hx : xs.length + 5 + 1020 * l.length ≤ CAP) :
    Calls Tryz.prog 88 #[wptr g, v, .func (.func 89) #[] #[wptr h0]] w fun e w' => e = .returned (.tuple #[]) ∧ Wr w' base g (xs ++ allB mkdB l) ∧ WStep g w w' := by
  obtain ⟨A, n, c, rfl, hnl⟩ := hs.form
  have hc1 := count_any w base g n xs h (by omega) (by unfold CAP at *; omega)
  have hl := numB_len n
  have HNL := Lib.hid hnl
  have hgh : h0 ≠ g := fun e => by
    subst e
    obtain ⟨v, b1, _⟩ := h
    exact Blk.ne_ b1 hh (by decide) rfl
  have HHB := Lib.hid hh
  clear hh
  have HH := Lib.hid h; have HSL := Lib.hid hs; have HOK := Lib.hid hok
  clear h hs hok hnl
  go_enter Tryz.func88, Tryz.ntmps88
  go_wp2_with fail
  refine hc1.mono ?_
  rintro e w1 ⟨rfl, h1, h2⟩
  have HW := Lib.hid h1; have HST := Lib.hid h2
  clear h1 h2 hc1
  go_wp2
  go_loopw [14] (fun i wr => ∃ k : Nat, k ≤ n ∧ i = .int .i64 k ∧ Wr wr base g (xs ++ numB n ++ (l.take k).flatMap mkdB) ∧ WStep g w wr) (fun i _ => n - (RowKit.intOf i).toNat)
  case atStart => exact ⟨0, by omega, rfl, by simpa using HW.out, HST.out⟩
  case round =>
    obtain ⟨k, hk, rfl, hwr, hst⟩ := hrel
    have HWR := Lib.hid hwr; have HST2 := Lib.hid hst
    clear hwr hst
    by_cases hlt : k < n
    · have hkl : k < l.length := by have := HNL.out; omega
      have hkI : (k : Int) < (n : Int) := by omega
      have hk0 : (0 : Int) ≤ (k : Int) := by omega
      have hkeep : ∀ p : Addr, p.block < B → wr.cell? p = w.cell? p := fun p hp => (HST2.out.below HH.out).cell (Nat.lt_of_lt_of_le hp hB)
      obtain ⟨ad, cs, rfl, had, hP, hcc⟩ := slC_cells (w := wr) (by intro x cs h; rw [show cs = _ from h]; rfl) (SlC.plain hkeep HSL.out (fun _ _ h => h)) hkl
      have hlen : (xs ++ numB n ++ (l.take k).flatMap mkdB).length + 1020 ≤ CAP := by
        have hm : ∀ x ∈ l.take k, (mkdB x).length ≤ 1020 := fun x hx => by
          have hx := HOK.out x (List.mem_of_mem_take hx)
          have := mkdB_len x; have := hx.1; omega
        have h2 := flatB_mem hm
        rw [List.length_append, List.length_append]
        rw [List.length_take] at h2
        have h3 : 1020 * (min k l.length) + 1020 ≤ 1020 * l.length := by
          rw [Nat.min_eq_left (Nat.le_of_lt hkl), ← Nat.mul_succ]
          exact Nat.mul_le_mul_left _ hkl
        have := HNL.out
        omega
      have hts := take_flat mkdB l k hkl
      have hokx := HOK.out _ (List.getElem_mem hkl)
      have HTS := Lib.hid hts; have HLEN := Lib.hid hlen; have HOKX := Lib.hid hokx; have HKEEP := Lib.hid hkeep
      clear hts hlen hokx hkeep
      generalize l[k] = x at *
      obtain rfl : cs = markC x := hP
      have e0 := hcc 0 _ rfl
      rw [Nat.add_zero] at e0
      have e1 := hcc 1 _ rfl
      rw [add_next ad (k * 4) 0] at e1
      have e2 := hcc 2 _ rfl
      rw [add_next ad (k * 4) 1] at e2
      have e3 := hcc 3 _ rfl
      rw [add_next ad (k * 4) 2] at e3
      clear hcc
      have hwa := HWR.out.alloc (.cells #[.string x.text, .int .u32 x.clear, .int .u32 x.set.1, .int .u32 x.set.2] 76)
      have hsa := HST2.out.alloc HWR.out.lt (.cells #[.string x.text, .int .u32 x.clear, .int .u32 x.set.1, .int .u32 x.set.2] 76)
      have hha := (HST2.out.blk HH.out HHB.out (by decide) hgh).alloc (.cells #[.string x.text, .int .u32 x.clear, .int .u32 x.set.1, .int .u32 x.set.2] 76)
      have hcall := mkd_any _ base g h0 x _ hwa hha HOKX.out.1 HOKX.out.2.1 HOKX.out.2.2 HLEN.out
      have HCALL := Lib.hid hcall; have HSA := Lib.hid hsa
      clear hcall hwa hsa hha
      go_wp2_with fail
      refine HCALL.out.mono ?_
      rintro e w2 ⟨rfl, h3, h4⟩
      have H3 := Lib.hid h3; have H4 := Lib.hid h4
      clear h3 h4
      go_wp2
      go_roundw
      case rel => exact ⟨k + 1, by omega, by go_num, by rw [HTS.out, ← List.append_assoc]; exact H3.out, HSA.out.trans H4.out⟩
      case measure => simp [RowKit.intOf]; omega
    · obtain rfl : k = n := by omega
      go_wp2
      go_end0
      refine ⟨rfl, ?_, HST2.out⟩
      have := HWR.out
      rw [List.take_of_length_le (by have := HNL.out; omega), List.append_assoc] at this
      show Wr wr base g (xs ++ (numB l.length ++ l.flatMap mkdB))
      rw [← HNL.out]; exact this
set_option maxRecDepth 20000 in
set_option maxHeartbeats 2000000 in
theorem allNd_any (w : World) (base g h0 B : Nat) (v : Value) (l : List Nd) (xs : List Nat) (h : Wr w base g xs) (hh : Blk w h0 142 #[wptr g]) (hs : SlC NdC 2 w B l v) (hB : B ≤ base) (hn : l.length ≤ 1000000) (hok : ∀ x ∈ l, -1 ≤ x.1 ∧ x.1 < 4294967295 ∧ x.2.size ≤ 1000) (hx : xs.length + 5 + 1015 * l.length ≤ CAP) :
    Calls Tryz.prog 91 #[wptr g, v, .func (.func 92) #[] #[wptr h0]] w fun e w' => e = .returned (.tuple #[]) ∧ Wr w' base g (xs ++ allB ndB l) ∧ WStep g w w' := by
  obtain ⟨A, n, c, rfl, hnl⟩ := hs.form
  have hc1 := count_any w base g n xs h (by omega) (by unfold CAP at *; omega)
  have hl := numB_len n
  have HNL := Lib.hid hnl
  have hgh : h0 ≠ g := fun e => by
    subst e
    obtain ⟨v, b1, _⟩ := h
    exact Blk.ne_ b1 hh (by decide) rfl
  have HHB := Lib.hid hh
  clear hh
  have HH := Lib.hid h; have HSL := Lib.hid hs; have HOK := Lib.hid hok
  clear h hs hok hnl
  go_enter Tryz.func91, Tryz.ntmps91
  go_wp2_with fail
  refine hc1.mono ?_
  rintro e w1 ⟨rfl, h1, h2⟩
  have HW := Lib.hid h1; have HST := Lib.hid h2
  clear h1 h2 hc1
  go_wp2
  go_loopw [14] (fun i wr => ∃ k : Nat, k ≤ n ∧ i = .int .i64 k ∧ Wr wr base g (xs ++ numB n ++ (l.take k).flatMap ndB) ∧ WStep g w wr) (fun i _ => n - (RowKit.intOf i).toNat)
  case atStart => exact ⟨0, by omega, rfl, by simpa using HW.out, HST.out⟩
  case round =>
    obtain ⟨k, hk, rfl, hwr, hst⟩ := hrel
    have HWR := Lib.hid hwr; have HST2 := Lib.hid hst
    clear hwr hst
    by_cases hlt : k < n
    · have hkl : k < l.length := by have := HNL.out; omega
      have hkI : (k : Int) < (n : Int) := by omega
      have hk0 : (0 : Int) ≤ (k : Int) := by omega
      have hkeep : ∀ p : Addr, p.block < B → wr.cell? p = w.cell? p := fun p hp => (HST2.out.below HH.out).cell (Nat.lt_of_lt_of_le hp hB)
      obtain ⟨ad, cs, rfl, had, hP, hcc⟩ := slC_cells (w := wr) (by intro x cs h; rw [show cs = _ from h]; rfl) (SlC.plain hkeep HSL.out (fun _ _ h => h)) hkl
      have hlen : (xs ++ numB n ++ (l.take k).flatMap ndB).length + 1015 ≤ CAP := by
        have hm : ∀ x ∈ l.take k, (ndB x).length ≤ 1015 := fun x hx => by
          have hx := HOK.out x (List.mem_of_mem_take hx)
          have := ndB_len x; have := hx.2.2; omega
        have h2 := flatB_mem hm
        rw [List.length_append, List.length_append]
        rw [List.length_take] at h2
        have h3 : 1015 * (min k l.length) + 1015 ≤ 1015 * l.length := by
          rw [Nat.min_eq_left (Nat.le_of_lt hkl), ← Nat.mul_succ]
          exact Nat.mul_le_mul_left _ hkl
        have := HNL.out
        omega
      have hts := take_flat ndB l k hkl
      have hokx := HOK.out _ (List.getElem_mem hkl)
      have HTS := Lib.hid hts; have HLEN := Lib.hid hlen; have HOKX := Lib.hid hokx; have HKEEP := Lib.hid hkeep
      clear hts hlen hokx hkeep
      generalize l[k] = x at *
      obtain rfl : cs = [Value.int .i64 x.1, Value.string x.2] := hP
      have e0 := hcc 0 _ rfl
      rw [Nat.add_zero] at e0
      have e1 := hcc 1 _ rfl
      rw [add_next ad (k * 2) 0] at e1
      clear hcc
      have hwa := HWR.out.alloc (.cells #[.int .i64 x.1, .string x.2] 78)
      have hsa := HST2.out.alloc HWR.out.lt (.cells #[.int .i64 x.1, .string x.2] 78)
      have hha := (HST2.out.blk HH.out HHB.out (by decide) hgh).alloc (.cells #[.int .i64 x.1, .string x.2] 78)
      have hcall := nd_any _ base g h0 x _ hwa hha HOKX.out.1 HOKX.out.2.1 HOKX.out.2.2 HLEN.out
      have HCALL := Lib.hid hcall; have HSA := Lib.hid hsa
      clear hcall hwa hsa hha
      go_wp2_with fail
      refine HCALL.out.mono ?_
      rintro e w2 ⟨rfl, h3, h4⟩
      have H3 := Lib.hid h3; have H4 := Lib.hid h4
      clear h3 h4
      go_wp2
      go_roundw
      case rel => exact ⟨k + 1, by omega, by go_num, by rw [HTS.out, ← List.append_assoc]; exact H3.out, HSA.out.trans H4.out⟩
      case measure => simp [RowKit.intOf]; omega
    · obtain rfl : k = n := by omega
      go_wp2
      go_end0
      refine ⟨rfl, ?_, HST2.out⟩
      have := HWR.out
      rw [List.take_of_length_le (by have := HNL.out; omega), List.append_assoc] at this
      show Wr wr base g (xs ++ (numB l.length ++ l.flatMap ndB))
      rw [← HNL.out]; exact this
set_option maxRecDepth 20000 in
set_option maxHeartbeats 2000000 in
theorem allInt_any (w : World) (base g B : Nat) (v : Value) (l : List Int) (xs : List Nat) (h : Wr w base g xs) (hs : SlC IntC 1 w B l v) (hB : B ≤ base) (hn : l.length ≤ 1000000) (hok : ∀ x ∈ l, 0 ≤ x ∧ x < 4294967296) (hx : xs.length + 5 + 5 * l.length ≤ CAP) :
    Calls Tryz.prog 95 #[wptr g, v, .func (.func 93) #[wptr g] #[]] w fun e w' => e = .returned (.tuple #[]) ∧ Wr w' base g (xs ++ allB intB l) ∧ WStep g w w' := by
  obtain ⟨A, n, c, rfl, hnl⟩ := hs.form
  have hc1 := count_any w base g n xs h (by omega) (by unfold CAP at *; omega)
  have hl := numB_len n
  have HNL := Lib.hid hnl
  have HH := Lib.hid h; have HSL := Lib.hid hs; have HOK := Lib.hid hok
  clear h hs hok hnl
  go_enter Tryz.func95, Tryz.ntmps95
  go_wp2_with fail
  refine hc1.mono ?_
  rintro e w1 ⟨rfl, h1, h2⟩
  have HW := Lib.hid h1; have HST := Lib.hid h2
  clear h1 h2 hc1
  go_wp2
  go_loopw [14] (fun i wr => ∃ k : Nat, k ≤ n ∧ i = .int .i64 k ∧ Wr wr base g (xs ++ numB n ++ (l.take k).flatMap intB) ∧ WStep g w wr) (fun i _ => n - (RowKit.intOf i).toNat)
  case atStart => exact ⟨0, by omega, rfl, by simpa using HW.out, HST.out⟩
  case round =>
    obtain ⟨k, hk, rfl, hwr, hst⟩ := hrel
    have HWR := Lib.hid hwr; have HST2 := Lib.hid hst
    clear hwr hst
    by_cases hlt : k < n
    · have hkl : k < l.length := by have := HNL.out; omega
      have hkI : (k : Int) < (n : Int) := by omega
      have hk0 : (0 : Int) ≤ (k : Int) := by omega
      have hkeep : ∀ p : Addr, p.block < B → wr.cell? p = w.cell? p := fun p hp => (HST2.out.below HH.out).cell (Nat.lt_of_lt_of_le hp hB)
      obtain ⟨ad, cs, rfl, had, hP, hcc⟩ := slC_cells (w := wr) (by intro x cs h; rw [show cs = _ from h]; rfl) (SlC.plain hkeep HSL.out (fun _ _ h => h)) hkl
      have hlen : (xs ++ numB n ++ (l.take k).flatMap intB).length + 5 ≤ CAP := by
        have hm : ∀ x ∈ l.take k, (intB x).length ≤ 5 := fun x hx => by
          have hx := HOK.out x (List.mem_of_mem_take hx)
          exact numB_len _
        have h2 := flatB_mem hm
        rw [List.length_append, List.length_append]
        rw [List.length_take] at h2
        have h3 : 5 * (min k l.length) + 5 ≤ 5 * l.length := by
          rw [Nat.min_eq_left (Nat.le_of_lt hkl), ← Nat.mul_succ]
          exact Nat.mul_le_mul_left _ hkl
        have := HNL.out
        omega
      have hts := take_flat intB l k hkl
      have hokx := HOK.out _ (List.getElem_mem hkl)
      have HTS := Lib.hid hts; have HLEN := Lib.hid hlen; have HOKX := Lib.hid hokx; have HKEEP := Lib.hid hkeep
      clear hts hlen hokx hkeep
      generalize l[k] = x at *
      obtain rfl : cs = [Value.int .i64 x] := hP
      have e0 := hcc 0 _ rfl
      rw [Nat.mul_one, Nat.add_zero] at e0
      clear hcc
      have hwa := HWR.out
      have hsa := HST2.out
      have hcall := count_int _ base g x _ hwa HOKX.out.1 HOKX.out.2 HLEN.out
      have HCALL := Lib.hid hcall; have HSA := Lib.hid hsa
      clear hcall hwa hsa
      go_wp2_with fail
      refine HCALL.out.mono ?_
      rintro e w2 ⟨rfl, h3, h4⟩
      have H3 := Lib.hid h3; have H4 := Lib.hid h4
      clear h3 h4
      go_wp2
      go_roundw
      case rel => exact ⟨k + 1, by omega, by go_num, by rw [HTS.out, ← List.append_assoc]; exact H3.out, HSA.out.trans H4.out⟩
      case measure => simp [RowKit.intOf]; omega
    · obtain rfl : k = n := by omega
      go_wp2
      go_end0
      refine ⟨rfl, ?_, HST2.out⟩
      have := HWR.out
      rw [List.take_of_length_le (by have := HNL.out; omega), List.append_assoc] at this
      show Wr wr base g (xs ++ (numB l.length ++ l.flatMap intB))
      rw [← HNL.out]; exact this
set_option maxRecDepth 20000 in
set_option maxHeartbeats 2000000 in
theorem allForm_any (w : World) (base g B : Nat) (v : Value) (l : List Fm) (xs : List Nat) (h : Wr w base g xs) (hs : SlC FormC 2 w B l v) (hB : B ≤ base) (hn : l.length ≤ 1000000) (hok : ∀ x ∈ l, x.w.length ≤ 1000 ∧ ∀ s ∈ x.w, ok32 s) (hx : xs.length + 5 + 10020 * l.length ≤ CAP) :
    Calls Tryz.prog 96 #[wptr g, v, .func (.func 97) #[wptr g] #[]] w fun e w' => e = .returned (.tuple #[]) ∧ Wr w' base g (xs ++ allB formB l) ∧ WStep g w w' := by
  obtain ⟨A, n, c, rfl, hnl⟩ := hs.form
  have hc1 := count_any w base g n xs h (by omega) (by unfold CAP at *; omega)
  have hl := numB_len n
  have HNL := Lib.hid hnl
  have HH := Lib.hid h; have HSL := Lib.hid hs; have HOK := Lib.hid hok
  clear h hs hok hnl
  go_enter Tryz.func96, Tryz.ntmps96
  go_wp2_with fail
  refine hc1.mono ?_
  rintro e w1 ⟨rfl, h1, h2⟩
  have HW := Lib.hid h1; have HST := Lib.hid h2
  clear h1 h2 hc1
  go_wp2
  go_loopw [14] (fun i wr => ∃ k : Nat, k ≤ n ∧ i = .int .i64 k ∧ Wr wr base g (xs ++ numB n ++ (l.take k).flatMap formB) ∧ WStep g w wr) (fun i _ => n - (RowKit.intOf i).toNat)
  case atStart => exact ⟨0, by omega, rfl, by simpa using HW.out, HST.out⟩
  case round =>
    obtain ⟨k, hk, rfl, hwr, hst⟩ := hrel
    have HWR := Lib.hid hwr; have HST2 := Lib.hid hst
    clear hwr hst
    by_cases hlt : k < n
    · have hkl : k < l.length := by have := HNL.out; omega
      have hkI : (k : Int) < (n : Int) := by omega
      have hk0 : (0 : Int) ≤ (k : Int) := by omega
      have hkeep : ∀ p : Addr, p.block < B → wr.cell? p = w.cell? p := fun p hp => (HST2.out.below HH.out).cell (Nat.lt_of_lt_of_le hp hB)
      obtain ⟨ad, cs, rfl, had, hP, hcc⟩ := slC_cells (w := wr) (by rintro x cs ⟨v, rfl, -⟩; rfl) (SlC.plain hkeep HSL.out (fun _ _ h => FormC.keep hkeep h)) hkl
      have hlen : (xs ++ numB n ++ (l.take k).flatMap formB).length + 10020 ≤ CAP := by
        have hm : ∀ x ∈ l.take k, (formB x).length ≤ 10020 := fun x hx => by
          have hx := HOK.out x (List.mem_of_mem_take hx)
          have := formB_len x; have := hx.1; omega
        have h2 := flatB_mem hm
        rw [List.length_append, List.length_append]
        rw [List.length_take] at h2
        have h3 : 10020 * (min k l.length) + 10020 ≤ 10020 * l.length := by
          rw [Nat.min_eq_left (Nat.le_of_lt hkl), ← Nat.mul_succ]
          exact Nat.mul_le_mul_left _ hkl
        have := HNL.out
        omega
      have hts := take_flat formB l k hkl
      have hokx := HOK.out _ (List.getElem_mem hkl)
      have HTS := Lib.hid hts; have HLEN := Lib.hid hlen; have HOKX := Lib.hid hokx; have HKEEP := Lib.hid hkeep
      clear hts hlen hokx hkeep
      generalize l[k] = x at *
      obtain ⟨vx, rfl, hvx⟩ := hP
      obtain ⟨Ax, nx, cx, rfl, hnx⟩ := hvx.form
      clear hnx
      have e0 := hcc 0 _ rfl
      rw [Nat.add_zero] at e0
      have e1 := hcc 1 _ rfl
      rw [add_next ad (k * 2) 0] at e1
      clear hcc
      have hwa := HWR.out.alloc (.cells #[.bool x.has, .slice Ax nx cx] 82)
      have hsa := HST2.out.alloc HWR.out.lt (.cells #[.bool x.has, .slice Ax nx cx] 82)
      have hcall := form_any _ base g B x (.slice Ax nx cx) _ hwa (SlC.plain (w := wr) (fun p hp => World.cell?_alloc_lt wr _ p (by have h1 := (HST2.out.below HH.out).size; have h2 := HH.out.lt; have h3 := HH.out.base_le; have h4 := HST2.out.size; omega)) hvx (fun _ _ h => h)) hB HOKX.out.1 HOKX.out.2 HLEN.out
      have HCALL := Lib.hid hcall; have HSA := Lib.hid hsa
      clear hcall hwa hsa
      go_wp2_with fail
      refine HCALL.out.mono ?_
      rintro e w2 ⟨rfl, h3, h4⟩
      have H3 := Lib.hid h3; have H4 := Lib.hid h4
      clear h3 h4
      go_wp2
      go_roundw
      case rel => exact ⟨k + 1, by omega, by go_num, by rw [HTS.out, ← List.append_assoc]; exact H3.out, HSA.out.trans H4.out⟩
      case measure => simp [RowKit.intOf]; omega
    · obtain rfl : k = n := by omega
      go_wp2
      go_end0
      refine ⟨rfl, ?_, HST2.out⟩
      have := HWR.out
      rw [List.take_of_length_le (by have := HNL.out; omega), List.append_assoc] at this
      show Wr wr base g (xs ++ (numB l.length ++ l.flatMap formB))
      rw [← HNL.out]; exact this
set_option maxRecDepth 20000 in
set_option maxHeartbeats 2000000 in
theorem en_any (w : World) (base g h0 : Nat) (x : En) (B : Nat) (A : Option Addr) (n c : Nat) (xs : List Nat) (h : Wr w base g xs) (hh : Blk w h0 142 #[wptr g]) (hv : SlC FormC 2 w B x.forms (.slice A n c)) (hB : B ≤ base) (h1 : x.gloss.size ≤ 1000) (h2 : x.forms.length ≤ 100) (h3 : ∀ f ∈ x.forms, f.w.length ≤ 1000 ∧ ∀ s ∈ f.w, ok32 s) (hx : xs.length + 1100000 ≤ CAP) :
    Calls Tryz.prog 99 #[.agg #[.string x.gloss, .slice A n c], wptr h0] w fun e w' => e = .returned (.tuple #[]) ∧ Wr w' base g (xs ++ enB x) ∧ WStep g w w' := by
  have hgh : h0 ≠ g := fun e => by
    subst e
    obtain ⟨v, b1, _⟩ := h
    exact Blk.ne_ b1 hh (by decide) rfl
  have hw0 := h.alloc (.cells #[.string x.gloss, .slice A n c] 84)
  have hB0 := Blk.new w 84 #[.string x.gloss, .slice A n c]
  have hh0 := hh.alloc (.cells #[.string x.gloss, .slice A n c] 84)
  have hst := (WStep.refl g w).alloc h.lt (.cells #[.string x.gloss, .slice A n c] 84)
  have hgl := h.lt
  have hhl := hh.lt
  have hhc := hh0.cell 0
  simp only [List.getElem?_toArray, List.getElem?_cons_zero] at hhc
  have HOK3 := Lib.hid h3; have HV := Lib.hid hv
  clear h3 hv
  have HW0 := Lib.hid hw0; have HB0 := Lib.hid hB0; have HST := Lib.hid hst; have HH0 := Lib.hid hh0; have HX := Lib.hid h
  clear hw0 hB0 hst hh0 h hh
  go_enter Tryz.func99, Tryz.ntmps99
  go_wp2_with fail
  refine (text_any _ base g x.gloss _ HW0.out (by omega) (by omega)).mono ?_
  rintro e w1 ⟨rfl, h1, h2⟩
  have hb1 := h2.blk HW0.out HB0.out (by decide) (by omega)
  have hh1 := h2.blk HW0.out HH0.out (by decide) hgh
  have c0 := hb1.cell 0
  have c1 := hb1.cell 1
  have hhc := hh1.cell 0
  simp only [List.getElem?_toArray, List.getElem?_cons_zero, List.getElem?_cons_succ] at hhc c0 c1
  have HW1 := Lib.hid h1; have HS1 := Lib.hid h2; have HB1 := Lib.hid hb1; have HH1 := Lib.hid hh1
  clear h1 h2 hb1 hh1
  go_wp2_with fail
  refine (allForm_any w1 base g B (.slice A n c) x.forms _ HW1.out (SlC.plain (fun p hp => ((HST.out.trans HS1.out).below HX.out).cell (Nat.lt_of_lt_of_le hp hB)) HV.out (fun _ _ h => FormC.keep (fun p hp => ((HST.out.trans HS1.out).below HX.out).cell (Nat.lt_of_lt_of_le hp hB)) h)) hB (by omega) HOK3.out (by have := textB_len x.gloss; rw [List.length_append]; omega)).mono ?_
  rintro e w2 ⟨rfl, h1, h2⟩
  have HW2 := Lib.hid h1; have HS2 := Lib.hid h2
  clear h1 h2
  go_wp2
  go_end0
  refine ⟨rfl, ?_, ((HST.out.trans HS1.out).trans HS2.out)⟩
  unfold enB
  have := HW2.out
  simp only [List.append_assoc] at this
  exact this
theorem enB_len {x : En} (h1 : x.gloss.size ≤ 1000) (h2 : x.forms.length ≤ 100) (h3 : ∀ f ∈ x.forms, f.w.length ≤ 1000) : (enB x).length ≤ 1100000 := by
  have := textB_len x.gloss
  have := formsB_len h3
  unfold enB; rw [List.length_append]; omega
set_option maxRecDepth 20000 in
set_option maxHeartbeats 2000000 in
theorem allEn_any (w : World) (base g h0 B : Nat) (v : Value) (l : List En) (xs : List Nat) (h : Wr w base g xs) (hh : Blk w h0 142 #[wptr g]) (hs : SlC EnC 2 w B l v) (hB : B ≤ base) (hn : l.length ≤ 1000000) (hok : ∀ x ∈ l, x.gloss.size ≤ 1000 ∧ x.forms.length ≤ 100 ∧ ∀ f ∈ x.forms, f.w.length ≤ 1000 ∧ ∀ s ∈ f.w, ok32 s) (hx : xs.length + 5 + 1100000 * l.length ≤ CAP) :
    Calls Tryz.prog 98 #[wptr g, v, .func (.func 99) #[] #[wptr h0]] w fun e w' => e = .returned (.tuple #[]) ∧ Wr w' base g (xs ++ allB enB l) ∧ WStep g w w' := by
  obtain ⟨A, n, c, rfl, hnl⟩ := hs.form
  have hc1 := count_any w base g n xs h (by omega) (by unfold CAP at *; omega)
  have hl := numB_len n
  have HNL := Lib.hid hnl
  have hgh : h0 ≠ g := fun e => by
    subst e
    obtain ⟨v, b1, _⟩ := h
    exact Blk.ne_ b1 hh (by decide) rfl
  have HHB := Lib.hid hh
  clear hh
  have HH := Lib.hid h; have HSL := Lib.hid hs; have HOK := Lib.hid hok
  clear h hs hok hnl
  go_enter Tryz.func98, Tryz.ntmps98
  go_wp2_with fail
  refine hc1.mono ?_
  rintro e w1 ⟨rfl, h1, h2⟩
  have HW := Lib.hid h1; have HST := Lib.hid h2
  clear h1 h2 hc1
  go_wp2
  go_loopw [14] (fun i wr => ∃ k : Nat, k ≤ n ∧ i = .int .i64 k ∧ Wr wr base g (xs ++ numB n ++ (l.take k).flatMap enB) ∧ WStep g w wr) (fun i _ => n - (RowKit.intOf i).toNat)
  case atStart => exact ⟨0, by omega, rfl, by simpa using HW.out, HST.out⟩
  case round =>
    obtain ⟨k, hk, rfl, hwr, hst⟩ := hrel
    have HWR := Lib.hid hwr; have HST2 := Lib.hid hst
    clear hwr hst
    by_cases hlt : k < n
    · have hkl : k < l.length := by have := HNL.out; omega
      have hkI : (k : Int) < (n : Int) := by omega
      have hk0 : (0 : Int) ≤ (k : Int) := by omega
      have hkeep : ∀ p : Addr, p.block < B → wr.cell? p = w.cell? p := fun p hp => (HST2.out.below HH.out).cell (Nat.lt_of_lt_of_le hp hB)
      obtain ⟨ad, cs, rfl, had, hP, hcc⟩ := slC_cells (w := wr) (by rintro x cs ⟨v, rfl, -⟩; rfl) (SlC.plain hkeep HSL.out (fun _ _ h => EnC.keep hkeep h)) hkl
      have hlen : (xs ++ numB n ++ (l.take k).flatMap enB).length + 1100000 ≤ CAP := by
        have hm : ∀ x ∈ l.take k, (enB x).length ≤ 1100000 := fun x hx => by
          have hx := HOK.out x (List.mem_of_mem_take hx)
          exact enB_len hx.1 hx.2.1 fun f hf => (hx.2.2 f hf).1
        have h2 := flatB_mem hm
        rw [List.length_append, List.length_append]
        rw [List.length_take] at h2
        have h3 : 1100000 * (min k l.length) + 1100000 ≤ 1100000 * l.length := by
          rw [Nat.min_eq_left (Nat.le_of_lt hkl), ← Nat.mul_succ]
          exact Nat.mul_le_mul_left _ hkl
        have := HNL.out
        omega
      have hts := take_flat enB l k hkl
      have hokx := HOK.out _ (List.getElem_mem hkl)
      have HTS := Lib.hid hts; have HLEN := Lib.hid hlen; have HOKX := Lib.hid hokx; have HKEEP := Lib.hid hkeep
      clear hts hlen hokx hkeep
      generalize l[k] = x at *
      obtain ⟨vx, rfl, hvx⟩ := hP
      obtain ⟨Ax, nx, cx, rfl, hnx⟩ := hvx.form
      clear hnx
      have e0 := hcc 0 _ rfl
      rw [Nat.add_zero] at e0
      have e1 := hcc 1 _ rfl
      rw [add_next ad (k * 2) 0] at e1
      clear hcc
      have hwa := HWR.out.alloc (.cells #[.string x.gloss, .slice Ax nx cx] 84)
      have hsa := HST2.out.alloc HWR.out.lt (.cells #[.string x.gloss, .slice Ax nx cx] 84)
      have hha := (HST2.out.blk HH.out HHB.out (by decide) hgh).alloc (.cells #[.string x.gloss, .slice Ax nx cx] 84)
      have hcall := en_any _ base g h0 x B Ax nx cx _ hwa hha (SlC.plain (w := wr) (fun p hp => World.cell?_alloc_lt wr _ p (by have h2 := HH.out.lt; have h3 := HH.out.base_le; have h4 := HST2.out.size; omega)) hvx (fun _ _ h => FormC.keep (fun p hp => World.cell?_alloc_lt wr _ p (by have h2 := HH.out.lt; have h3 := HH.out.base_le; have h4 := HST2.out.size; omega)) h)) hB HOKX.out.1 HOKX.out.2.1 HOKX.out.2.2 HLEN.out
      have HCALL := Lib.hid hcall; have HSA := Lib.hid hsa
      clear hcall hwa hsa hha
      go_wp2_with fail
      refine HCALL.out.mono ?_
      rintro e w2 ⟨rfl, h3, h4⟩
      have H3 := Lib.hid h3; have H4 := Lib.hid h4
      clear h3 h4
      go_wp2
      go_roundw
      case rel => exact ⟨k + 1, by omega, by go_num, by rw [HTS.out, ← List.append_assoc]; exact H3.out, HSA.out.trans H4.out⟩
      case measure => simp [RowKit.intOf]; omega
    · obtain rfl : k = n := by omega
      go_wp2
      go_end0
      refine ⟨rfl, ?_, HST2.out⟩
      have := HWR.out
      rw [List.take_of_length_le (by have := HNL.out; omega), List.append_assoc] at this
      show Wr wr base g (xs ++ (numB l.length ++ l.flatMap enB))
      rw [← HNL.out]; exact this
end Go.Proofs.YtmepaeahchiglaaGreatDoor
