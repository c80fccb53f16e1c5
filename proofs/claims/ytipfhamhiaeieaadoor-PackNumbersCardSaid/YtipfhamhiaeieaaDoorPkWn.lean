/-
  layer 43: the writer's number, count, sound, flag. Conditions: numbers of 32 bits; a list of the reach.
-/
import Derived.Test.YtipfhamhiaeieaaDoorPkWr
namespace Go.Proofs.YtipfhamhiaeieaaDoor
open Go.RowKit Go.Lib

theorem numK_len : ∀ (k n : Nat), (numK k n).length ≤ k
  | 0, _ => Nat.le_refl _
  | k + 1, n => by
    unfold numK; split
    · simp
    · simpa using numK_len k (n / 128)
theorem numB_len (n : Nat) : (numB n).length ≤ 5 := numK_len 5 n
abbrev wptr (g : Nat) : Value := .pointer (some ⟨g, 0, none⟩)
set_option maxRecDepth 20000 in
set_option maxHeartbeats 4000000 in
theorem num_any (w : World) (base g n : Nat) (xs : List Nat) (h : Wr w base g xs) (hn : n < 4294967296) (hx : xs.length + 5 ≤ CAP) :
    Calls Tryd.prog 63 #[wptr g, .int .u32 n] w fun e w' => e = .returned (.tuple #[]) ∧ Wr w' base g (xs ++ numB n) ∧ WStep g w w' := by
  obtain ⟨i0, hi, hz0, hz1, hz2⟩ := info_parts (show (Tryd.prog.info? 5).map (fun i => (i.zero, i.size, i.bytes)) = some (some (.int .u8 0), 1, 1) by kernel_rfl)
  unfold CAP at hx
  have HH := Lib.hid h
  clear h
  go_enter Tryd.func63, Tryd.ntmps63
  go_wp2
  go_loopw [1] (fun i wr => ∃ m j : Nat, ∃ zs : List Nat, i = .int .u32 m ∧ m < 4294967296 ∧ zs.length + j = 4 ∧ m < 128 ^ (j + 1) ∧ zs ++ numK (j + 1) m = numB n ∧ Wr wr base g (xs ++ zs) ∧ WStep g w wr) (fun i _ => (intOf i).toNat)
  case atStart => exact ⟨n, 4, [], rfl, hn, rfl, Nat.lt_of_lt_of_le hn (by decide), rfl, by rw [List.append_nil]; exact HH.out, WStep.refl _ _⟩
  case round =>
    obtain ⟨m, j, zs, rfl, hm, hzl, hmj, hzs, hwr, hst⟩ := hrel
    have hlen : (xs ++ zs).length ≤ 140737488351231 := by rw [List.length_append]; omega
    obtain ⟨v, b1, b2, b3⟩ := id hwr
    have hc := b1.cell 0
    have hf := b1.frozen 0
    simp only [List.getElem?_toArray, List.getElem?_cons_zero] at hc
    have hgl := b1.lt
    have hne : v.ownBlock ≠ some g := own_blk_ne b3 b1 (by decide)
    by_cases hlt : 128 ≤ m
    · have hltI : (128 : Int) ≤ m := by omega
      have hl7 := low7 (n := m)
      have hrn := reads_new wr 5 [bv (m % 128 + 128)]
      have HZ := Lib.hid hzs; have HWR := Lib.hid hwr; have HST := Lib.hid hst; have HC := Lib.hid hc; have HB1 := Lib.hid b1; have HB3 := Lib.hid b3; have HRN := Lib.hid hrn; have HNE := Lib.hid hne; have HMJ := Lib.hid hmj
      clear hzs hwr hst b1 b3 hrn hne hmj
      go_wp2_with (at_builtin; refine wpList_append_any _ rfl _ _ 62 rfl base 5 i0 (.int .u8 0) 1 1 Tryd.underlying62 hi hz0 hz1 hz2 rfl (by decide) _ _ _ rfl (HB3.out.alloc _) _ _ _ _ [bv (m % 128 + 128)] rfl HRN.out (by simp [Value.oneCell']) (by unfold maxLen; omega) (by omega) (by simp; omega) ?_; intro v' w3 hown' hgrow hx'; have hb3 : Blk w3 g 62 #[v] := (HB1.out.alloc _).grown hgrow (fun e => HNE.out e.symm); have hc3 : w3.cell? ⟨g, 0, none⟩ = some v := (by simpa using hb3.cell 0); have hf3 := hb3.frozen 0; have hres := wr_one (ys := [m % 128 + 128]) HWR.out HC.out hown' hgrow hx'; have HRES := Lib.hid hres; clear hres hb3 hx' hgrow; obtain ⟨A', c', rfl, _, _⟩ := ownsRow_form hown'; have HOWN := Lib.hid hown'; clear hown')
      clear hl7
      go_roundw
      case rel =>
        cases j with
        | zero => have := HMJ.out; rw [Nat.zero_add, Nat.pow_one] at this; omega
        | succ j =>
          have hr := HRES.out
          rw [List.length_append] at hr
          have hz := HZ.out
          rw [numB_step (by omega)] at hz
          refine ⟨m / 128, j, zs ++ [m % 128 + 128], by rfl, by omega, by rw [List.length_append, List.length_singleton]; omega, ?_, by rw [List.append_assoc]; exact hz, ?_, HST.out.trans hr.2⟩
          · have := HMJ.out; rw [Nat.pow_succ] at this; omega
          · rw [← List.append_assoc]; exact hr.1
      case measure => simp [intOf]; omega
    · have hltI : ¬ (128 : Int) ≤ m := by omega
      have hw8 : (m : Int) % 256 = m := by omega
      have hrn := reads_new wr 5 [bv m]
      have HZ := Lib.hid hzs; have HWR := Lib.hid hwr; have HST := Lib.hid hst; have HC := Lib.hid hc; have HB1 := Lib.hid b1; have HB3 := Lib.hid b3; have HRN := Lib.hid hrn; have HNE := Lib.hid hne; have HMJ := Lib.hid hmj
      clear hzs hwr hst b1 b3 hrn hne hmj
      go_wp2_with (at_builtin; refine wpList_append_any _ rfl _ _ 62 rfl base 5 i0 (.int .u8 0) 1 1 Tryd.underlying62 hi hz0 hz1 hz2 rfl (by decide) _ _ _ rfl (HB3.out.alloc _) _ _ _ _ [bv m] rfl HRN.out (by simp [Value.oneCell']) (by unfold maxLen; omega) (by omega) (by simp; omega) ?_; intro v' w3 hown' hgrow hx'; have hb3 : Blk w3 g 62 #[v] := (HB1.out.alloc _).grown hgrow (fun e => HNE.out e.symm); have hc3 : w3.cell? ⟨g, 0, none⟩ = some v := (by simpa using hb3.cell 0); have hf3 := hb3.frozen 0; have hres := wr_one (ys := [m]) HWR.out HC.out hown' hgrow hx'; have HRES := Lib.hid hres; clear hres hb3 hx' hgrow; obtain ⟨A', c', rfl, _, _⟩ := ownsRow_form hown'; have HOWN := Lib.hid hown'; clear hown')
      go_end0
      have hr := HRES.out
      rw [List.length_append] at hr
      have hz := HZ.out
      rw [numB_last (by omega)] at hz
      exact ⟨rfl, by rw [← hz, ← List.append_assoc]; exact hr.1, HST.out.trans hr.2⟩
theorem count_any (w : World) (base g : Nat) (n : Nat) (xs : List Nat) (h : Wr w base g xs) (hn : n < 4294967296) (hx : xs.length + 5 ≤ CAP) :
    Calls Tryd.prog 62 #[wptr g, .int .i64 n] w fun e w' => e = .returned (.tuple #[]) ∧ Wr w' base g (xs ++ numB n) ∧ WStep g w w' := by
  have hc := num_any w base g n xs h hn hx
  have hw : (n : Int) % 4294967296 = n := by omega
  clear h hx
  go_enter Tryd.func62, Tryd.ntmps62
  go_wp2_with fail
  refine hc.mono ?_
  rintro e w' ⟨rfl, h1, h2⟩
  go_wp2
  go_end0
  exact ⟨rfl, h1, h2⟩
theorem sndB_len (s : Snd) : (sndB s).length ≤ 10 := by
  show (numB s.1 ++ numB s.2).length ≤ 10
  rw [List.length_append]
  have := numB_len s.1
  have := numB_len s.2
  omega
abbrev sndC (s : Snd) : List Value := [.int .u32 s.1, .int .u32 s.2]
abbrev sndV (s : Snd) : Value := .agg #[.int .u32 s.1, .int .u32 s.2]
set_option maxRecDepth 20000 in
theorem sound_any (w : World) (base g : Nat) (s : Snd) (xs : List Nat) (h : Wr w base g xs) (hs : ok32 s) (hx : xs.length + 10 ≤ CAP) :
    Calls Tryd.prog 36 #[wptr g, sndV s] w fun e w' => e = .returned (.tuple #[]) ∧ Wr w' base g (xs ++ sndB s) ∧ WStep g w w' := by
  obtain ⟨a, b⟩ := s
  obtain ⟨ha, hb⟩ := hs
  have hB := Blk.new w 24 #[.int .u32 a, .int .u32 b]
  have h1 := h.alloc (.cells #[.int .u32 a, .int .u32 b] 24)
  have hst := (WStep.refl g w).alloc h.lt (.cells #[.int .u32 a, .int .u32 b] 24)
  have hgl := h.lt
  show Calls _ _ _ _ fun e w' => e = .returned (.tuple #[]) ∧ Wr w' base g (xs ++ (numB a ++ numB b)) ∧ WStep g w w'
  have hl := numB_len a
  have hc1 := num_any _ base g a xs h1 ha (by omega)
  have hc2 := fun W (hW : Wr W base g (xs ++ numB a)) => num_any W base g b (xs ++ numB a) hW hb (by rw [List.length_append]; omega)
  have HB := Lib.hid hB; have H1 := Lib.hid h1; have HST := Lib.hid hst; have HC2 := Lib.hid hc2
  clear hB h1 hst hc2 h hx
  go_enter Tryd.func36, Tryd.ntmps36
  go_wp2_with fail
  refine hc1.mono ?_
  rintro e w1 ⟨rfl, h2, h3⟩
  have hb1 := h3.blk H1.out HB.out (by decide) (by omega)
  have hc := hb1.cell 1
  simp only [List.getElem?_toArray, List.getElem?_cons_zero, List.getElem?_cons_succ] at hc
  have H2 := Lib.hid h2; have H3 := Lib.hid h3
  clear h2 h3 hb1
  go_wp2_with fail
  refine (HC2.out _ H2.out).mono ?_
  rintro e w2 ⟨rfl, h4, h5⟩
  go_wp2
  go_end0
  exact ⟨rfl, by rw [← List.append_assoc]; exact h4, (HST.out.trans H3.out).trans h5⟩
def flagB (b : Bool) : List Nat := numB (if b then 1 else 0)
theorem flag_any (w : World) (base g : Nat) (b : Bool) (xs : List Nat) (h : Wr w base g xs) (hx : xs.length + 5 ≤ CAP) :
    Calls Tryd.prog 93 #[wptr g, .bool b] w fun e w' => e = .returned (.tuple #[]) ∧ Wr w' base g (xs ++ flagB b) ∧ WStep g w w' := by
  cases b
  · have hc := count_any w base g 0 xs h (by decide) hx
    clear h hx
    go_enter Tryd.func93, Tryd.ntmps93
    go_wp2_with fail
    refine hc.mono ?_
    rintro e w' ⟨rfl, h1, h2⟩
    go_wp2
    go_end0
    exact ⟨rfl, h1, h2⟩
  · have hc := count_any w base g 1 xs h (by decide) hx
    clear h hx
    go_enter Tryd.func93, Tryd.ntmps93
    go_wp2_with fail
    refine hc.mono ?_
    rintro e w' ⟨rfl, h1, h2⟩
    go_wp2
    go_end0
    exact ⟨rfl, h1, h2⟩
end Go.Proofs.YtipfhamhiaeieaaDoor
