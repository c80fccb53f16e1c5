/-
  layer 43: what law.Check asks of conditions and results. Conditions: numbers of 32 bits; lists that can be read.
-/
import Derived.Test.YtipfhamhiaeieaaDoorZbPkFt
namespace Go.Proofs.YtipfhamhiaeieaaDoor
open Go.RowKit Go.Lib

/-- Whether an element of Out is valid, with k conditions. -/
def oOk (k : Nat) (x : Ot) : Bool := outOk x (k : Int)
set_option maxRecDepth 20000 in
theorem invalid_any (s : Snd) (w : World) (hs : ok32 s) : Calls Tryd.prog 52 #[sndV s] w fun e w' => e = .returned (.bool (!validS s)) ∧ Below w.heap.size w w' := by
  have hv := fun W => fvalid_any s W hs
  generalize validS s = v at *
  have HV := Lib.hid hv
  clear hv hs
  obtain ⟨a, b⟩ := s
  go_enter Tryd.func52, Tryd.ntmps52
  go_wp2_with fail
  refine (HV.out _).mono ?_
  rintro e w1 ⟨rfl, hb⟩
  have HB := Lib.hid hb
  clear hb
  go_wp2
  go_ret
  exact ⟨rfl, ((Below.refl _ w).alloc (Nat.le_refl _) _).trans (HB.out.mono (by simp))⟩
set_option maxRecDepth 20000 in
theorem bad_any (x : Ot) (k h : Nat) (w : World) (hcl : is32 x.clear) (hset : ok32 x.set) (htk : is32 x.take) (hh : Blk w h 3 #[.int .i64 k]) :
    Calls Tryd.prog 50 #[outV x, wptr h] w fun e w' => e = .returned (.bool (!oOk k x)) ∧ Below w.heap.size w w' := by
  have hv := fun W => fits_any x k W hcl hset htk
  unfold oOk
  generalize outOk x (k : Int) = v at *
  have hc := (hh.alloc (.cells #[.int .i64 x.src, .int .u32 x.clear, .int .u32 x.set.1, .int .u32 x.set.2, .int .u32 x.take, .int .i64 x.ref] 60)).cell 0
  simp only [List.getElem?_toArray, List.getElem?_cons_zero] at hc
  have HV := Lib.hid hv
  clear hv hcl hset htk hh
  obtain ⟨src, clear, set, take, ref⟩ := x
  obtain ⟨a, b⟩ := set
  simp only at *
  go_enter Tryd.func50, Tryd.ntmps50
  go_wp2_with fail
  refine (HV.out _).mono ?_
  rintro e w1 ⟨rfl, hb⟩
  have HB := Lib.hid hb
  clear hb
  go_wp2
  go_ret
  exact ⟨rfl, ((Below.refl _ w).alloc (Nat.le_refl _) _).trans (HB.out.mono (by simp))⟩
set_option maxRecDepth 20000 in
set_option maxHeartbeats 1000000 in
theorem idxS_any (A : Option Addr) (n c B : Nat) (l : List Snd) (w : World) (hr : Reads w B 2 A n (l.flatMap sndC)) (hB : B ≤ w.heap.size) (hn : n ≤ maxLen) (hok : ∀ x ∈ l, ok32 x) :
    Calls Tryd.prog 91 #[.slice A n c, .func (.func 52) #[] #[]] w fun e w' => (∃ i : Int, e = .returned (.int .i64 i) ∧ decide (0 ≤ i) = !(l.all (validS))) ∧ Below w.heap.size w w' := by
  unfold maxLen at hn
  have hwl := hr.len_of (fun _ => rfl) (by decide)
  obtain ⟨res, hres⟩ : ∃ res, (!(l.all (validS))) = res := ⟨_, rfl⟩
  rw [hres]
  have HRES := Lib.hid hres; have HR := Lib.hid hr; have HWL := Lib.hid hwl; have HOK := Lib.hid hok
  clear hres hr hwl hok
  obtain ⟨PO, hPO⟩ : ∃ PO : Ending → World → Prop, PO = fun e w' => (∃ i : Int, e = .returned (.int .i64 i) ∧ decide (0 ≤ i) = res) ∧ Below w.heap.size w w' := ⟨_, rfl⟩
  show Calls _ _ _ _ fun e w' => (∃ i : Int, e = .returned (.int .i64 i) ∧ decide (0 ≤ i) = res) ∧ Below w.heap.size w w'
  rw [← hPO]
  have HPO := Lib.hid hPO
  clear hPO
  go_enter Tryd.func91, Tryd.ntmps91
  go_wp2
  go_loopw [8] (fun i wr => ∃ k : Nat, k ≤ n ∧ i = .int .i64 k ∧ (l.take k).all (validS) = true ∧ Below w.heap.size w wr) (fun i _ => n - (RowKit.intOf i).toNat)
  case atStart => exact ⟨0, by omega, rfl, by simp, Below.refl _ _⟩
  case round =>
    obtain ⟨k, hk, rfl, hall, hb⟩ := hrel
    have HALL := Lib.hid hall; have HB := Lib.hid hb
    clear hall hb
    by_cases hlt : k < n
    · have hkl : k < l.length := by rw [HWL.out]; exact hlt
      have hkI : (k : Int) < (n : Int) := by omega
      obtain ⟨ad, rfl, had, hc0, hc1⟩ := snd_cells (HR.out.below (HB.out.mono hB)) hkl
      have hst : (l.take (k + 1)).all (validS) = ((l.take k).all (validS) && (validS) l[k]) := by rw [List.take_succ_eq_append_getElem hkl, List.all_append]; simp
      have hmem := List.getElem_mem hkl
      have hOK := HOK.out _ hmem
      have HST := Lib.hid hst
      cases hv : (validS) l[k]
      · have hno : res = true := by
          rw [← HRES.out, Bool.not_eq_true', List.all_eq_false]
          exact ⟨_, hmem, by rw [hv]; decide⟩
        have HV := Lib.hid hv; have HNO := Lib.hid hno
        clear hv hno hmem hst
        generalize l[k] = x at *
        go_wp2_with fail
        refine (invalid_any x _ hOK).mono ?_
        rw [HV.out]
        rintro e w2 ⟨rfl, hb2⟩
        have HB2 := Lib.hid hb2
        clear hb2
        go_wp2
        rw [HPO.out]
        exact ⟨⟨k, rfl, by rw [HNO.out]; exact decide_eq_true (by omega)⟩, HB.out.trans (HB2.out.mono HB.out.size)⟩
      · have HV := Lib.hid hv
        clear hv hmem hst
        generalize l[k] = x at *
        go_wp2_with fail
        refine (invalid_any x _ hOK).mono ?_
        rw [HV.out]
        rintro e w2 ⟨rfl, hb2⟩
        have HB2 := Lib.hid hb2
        clear hb2
        go_wp2
        go_roundw
        case rel => exact ⟨k + 1, by omega, by go_num, by rw [HST.out, HALL.out, HV.out]; rfl, HB.out.trans (HB2.out.mono HB.out.size)⟩
        case measure => simp [RowKit.intOf]; omega
    · obtain rfl : k = n := by omega
      go_wp2
      have := HALL.out
      rw [List.take_of_length_le (by rw [HWL.out]; exact Nat.le_refl _)] at this
      rw [HPO.out]
      exact ⟨⟨-1, rfl, by rw [← HRES.out, this]; rfl⟩, HB.out⟩
set_option maxRecDepth 20000 in
theorem contS_any (A : Option Addr) (n c B : Nat) (l : List Snd) (w : World) (hr : Reads w B 2 A n (l.flatMap sndC)) (hB : B ≤ w.heap.size) (hn : n ≤ maxLen) (hok : ∀ x ∈ l, ok32 x) :
    Calls Tryd.prog 56 #[.slice A n c, .func (.func 52) #[] #[]] w fun e w' => e = .returned (.bool (!(l.all (validS)))) ∧ Below w.heap.size w w' := by
  have hc := idxS_any A n c B l w hr hB hn hok
  generalize (!(l.all (validS))) = res at *
  clear hr hok
  go_enter Tryd.func56, Tryd.ntmps56
  go_wp2_with fail
  refine hc.mono ?_
  rintro e w1 ⟨⟨i, rfl, hi⟩, hb⟩
  have HI := Lib.hid hi; have HB := Lib.hid hb
  clear hi hb
  go_wp2
  go_ret
  exact ⟨by rw [← HI.out]; rfl, HB.out⟩
set_option maxRecDepth 20000 in
set_option maxHeartbeats 1000000 in
theorem idxO_any (A : Option Addr) (n c B : Nat) (l : List Ot) (w : World) (k0 h : Nat) (hh : Blk w h 3 #[.int .i64 k0]) (hr : Reads w B 6 A n (l.flatMap outC)) (hB : B ≤ w.heap.size) (hn : n ≤ maxLen) (hok : ∀ x ∈ l, is32 x.clear ∧ ok32 x.set ∧ is32 x.take) :
    Calls Tryd.prog 92 #[.slice A n c, .func (.func 50) #[] #[wptr h]] w fun e w' => (∃ i : Int, e = .returned (.int .i64 i) ∧ decide (0 ≤ i) = !(l.all (oOk k0))) ∧ Below w.heap.size w w' := by
  unfold maxLen at hn
  have hwl := hr.len_of (fun _ => rfl) (by decide)
  obtain ⟨res, hres⟩ : ∃ res, (!(l.all (oOk k0))) = res := ⟨_, rfl⟩
  rw [hres]
  have HRES := Lib.hid hres; have HR := Lib.hid hr; have HWL := Lib.hid hwl; have HOK := Lib.hid hok; have HX := Lib.hid hh
  clear hres hr hwl hok hh
  obtain ⟨PO, hPO⟩ : ∃ PO : Ending → World → Prop, PO = fun e w' => (∃ i : Int, e = .returned (.int .i64 i) ∧ decide (0 ≤ i) = res) ∧ Below w.heap.size w w' := ⟨_, rfl⟩
  show Calls _ _ _ _ fun e w' => (∃ i : Int, e = .returned (.int .i64 i) ∧ decide (0 ≤ i) = res) ∧ Below w.heap.size w w'
  rw [← hPO]
  have HPO := Lib.hid hPO
  clear hPO
  go_enter Tryd.func92, Tryd.ntmps92
  go_wp2
  go_loopw [8] (fun i wr => ∃ k : Nat, k ≤ n ∧ i = .int .i64 k ∧ (l.take k).all (oOk k0) = true ∧ Below w.heap.size w wr) (fun i _ => n - (RowKit.intOf i).toNat)
  case atStart => exact ⟨0, by omega, rfl, by simp, Below.refl _ _⟩
  case round =>
    obtain ⟨k, hk, rfl, hall, hb⟩ := hrel
    have HALL := Lib.hid hall; have HB := Lib.hid hb
    clear hall hb
    by_cases hlt : k < n
    · have hkl : k < l.length := by rw [HWL.out]; exact hlt
      have hkI : (k : Int) < (n : Int) := by omega
      obtain ⟨ad, rfl, had, hc0, hc1, hc2, hc3, hc4, hc5⟩ := out_cells (HR.out.below (HB.out.mono hB)) hkl
      have hst : (l.take (k + 1)).all (oOk k0) = ((l.take k).all (oOk k0) && (oOk k0) l[k]) := by rw [List.take_succ_eq_append_getElem hkl, List.all_append]; simp
      have hmem := List.getElem_mem hkl
      have hOK := HOK.out _ hmem
      have HST := Lib.hid hst
      cases hv : (oOk k0) l[k]
      · have hno : res = true := by
          rw [← HRES.out, Bool.not_eq_true', List.all_eq_false]
          exact ⟨_, hmem, by rw [hv]; decide⟩
        have HV := Lib.hid hv; have HNO := Lib.hid hno
        clear hv hno hmem hst
        generalize l[k] = x at *
        go_wp2_with fail
        refine (bad_any x k0 h _ hOK.1 hOK.2.1 hOK.2.2 (HX.out.below HB.out HX.out.lt)).mono ?_
        rw [HV.out]
        rintro e w2 ⟨rfl, hb2⟩
        have HB2 := Lib.hid hb2
        clear hb2
        go_wp2
        rw [HPO.out]
        exact ⟨⟨k, rfl, by rw [HNO.out]; exact decide_eq_true (by omega)⟩, HB.out.trans (HB2.out.mono HB.out.size)⟩
      · have HV := Lib.hid hv
        clear hv hmem hst
        generalize l[k] = x at *
        go_wp2_with fail
        refine (bad_any x k0 h _ hOK.1 hOK.2.1 hOK.2.2 (HX.out.below HB.out HX.out.lt)).mono ?_
        rw [HV.out]
        rintro e w2 ⟨rfl, hb2⟩
        have HB2 := Lib.hid hb2
        clear hb2
        go_wp2
        go_roundw
        case rel => exact ⟨k + 1, by omega, by go_num, by rw [HST.out, HALL.out, HV.out]; rfl, HB.out.trans (HB2.out.mono HB.out.size)⟩
        case measure => simp [RowKit.intOf]; omega
    · obtain rfl : k = n := by omega
      go_wp2
      have := HALL.out
      rw [List.take_of_length_le (by rw [HWL.out]; exact Nat.le_refl _)] at this
      rw [HPO.out]
      exact ⟨⟨-1, rfl, by rw [← HRES.out, this]; rfl⟩, HB.out⟩
set_option maxRecDepth 20000 in
theorem contO_any (A : Option Addr) (n c B : Nat) (l : List Ot) (w : World) (k0 h : Nat) (hh : Blk w h 3 #[.int .i64 k0]) (hr : Reads w B 6 A n (l.flatMap outC)) (hB : B ≤ w.heap.size) (hn : n ≤ maxLen) (hok : ∀ x ∈ l, is32 x.clear ∧ ok32 x.set ∧ is32 x.take) :
    Calls Tryd.prog 57 #[.slice A n c, .func (.func 50) #[] #[wptr h]] w fun e w' => e = .returned (.bool (!(l.all (oOk k0)))) ∧ Below w.heap.size w w' := by
  have hc := idxO_any A n c B l w k0 h hh hr hB hn hok
  generalize (!(l.all (oOk k0))) = res at *
  clear hr hok
  go_enter Tryd.func57, Tryd.ntmps57
  go_wp2_with fail
  refine hc.mono ?_
  rintro e w1 ⟨⟨i, rfl, hi⟩, hb⟩
  have HI := Lib.hid hi; have HB := Lib.hid hb
  clear hi hb
  go_wp2
  go_ret
  exact ⟨by rw [← HI.out]; rfl, HB.out⟩
end Go.Proofs.YtipfhamhiaeieaaDoor
