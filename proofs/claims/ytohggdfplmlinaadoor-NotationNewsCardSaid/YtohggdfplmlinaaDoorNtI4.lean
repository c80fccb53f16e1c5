/-
  layer 3: Longest and Sound. Conditions: an inventory in memory; texts of at most maxLen bytes.
-/
import Derived.Test.YtohggdfplmlinaaDoorNtI3
namespace Go.Proofs.YtohggdfplmlinaaDoor
open Go.RowKit Go.Lib

theorem bs_extract (s : ByteArray) (a b : Nat) : bs (s.extract a b) = ((bs s).take b).drop a := by
  unfold bs
  rw [ByteArray.data_extract, Array.toList_extract, List.extract_eq_take_drop, List.drop_take]
theorem bs_pre (s : ByteArray) (n : Nat) : bs (s.extract 0 n) = (bs s).take n := by rw [bs_extract, List.drop_zero]
theorem size_extract_le (s : ByteArray) (a b : Nat) : (s.extract a b).size ≤ s.size := by
  rw [ByteArray.size_extract]; omega
/-- What Longest returns. -/
def longV (L : List Nam) (s : ByteArray) : Value := .tuple #[.string (s.extract 0 (longN L (bs s))), .bool (decide (longN L (bs s) ≠ 0))]
theorem longN_at {L : List Nam} {t : List UInt8} {k : Nat} (hk : k < 4) (h : ∀ j, j < k → symAt L t (4 - j) = false) (hy : symAt L t (4 - k) = true) : longN L t = 4 - k := by
  unfold longN
  have h0 := h 0; have h1 := h 1; have h2 := h 2
  rcases (by omega : k = 0 ∨ k = 1 ∨ k = 2 ∨ k = 3) with rfl | rfl | rfl | rfl
  · simp only [Nat.sub_zero] at hy; rw [if_pos hy]
  · rw [show 4 - 1 = 3 from rfl] at hy
    rw [if_neg (by rw [h0 (by omega)]; decide), if_pos hy]
  · rw [show 4 - 2 = 2 from rfl] at hy
    rw [if_neg (by rw [h0 (by omega)]; decide), if_neg (by have := h1 (by omega); rw [show 4 - 1 = 3 from rfl] at this; rw [this]; decide), if_pos hy]
  · rw [show 4 - 3 = 1 from rfl] at hy
    rw [if_neg (by rw [h0 (by omega)]; decide), if_neg (by have := h1 (by omega); rw [show 4 - 1 = 3 from rfl] at this; rw [this]; decide), if_neg (by have := h2 (by omega); rw [show 4 - 2 = 2 from rfl] at this; rw [this]; decide), if_pos hy]
theorem longN_none {L : List Nam} {t : List UInt8} (h : ∀ j, j < 4 → symAt L t (4 - j) = false) : longN L t = 0 := by
  unfold longN
  have h0 := h 0 (by omega); have h1 := h 1 (by omega); have h2 := h 2 (by omega); have h3 := h 3 (by omega)
  simp only [Nat.sub_zero, show 4 - 1 = 3 from rfl, show 4 - 2 = 2 from rfl, show 4 - 3 = 1 from rfl] at h0 h1 h2 h3
  rw [h0, h1, h2, h3]; rfl
set_option maxRecDepth 20000 in
set_option maxHeartbeats 1000000 in
theorem longest_any {w : World} {S : Nat → Prop} {g : Nat} {fs : List ByteArray} {L : List Nam} (s : ByteArray) (h : InvM w S g fs L) (hs : s.size ≤ maxLen) : Calls Tryd.prog 76 #[wptr g, .string s] w fun e w' => e = .returned (longV L s) ∧ ∃ n, w' = w.drewN n := by
  obtain ⟨A, c, A2, c2, b1, b2, b3, f2, f3, h1, -, hr, ⟨-, -, hc2, hc3⟩, hmap, hsym, -⟩ := h.parts
  have c2' := h1.cell 2
  have c3' := h1.cell 3
  simp only [List.getElem?_toArray, List.getElem?_cons_zero, List.getElem?_cons_succ] at c2' c3'
  have hm := made_any h
  have hl256 := h.ok.l256
  have hlook : ∀ n k, (Instr.lookup 63 (.map (some b2)) (.string (s.extract 0 n)) true).run Tryd.prog (w.drewN k) = .ok (.tuple #[.int .i64 ((f2 (s.extract 0 n)).getD 0), .bool (f2 (s.extract 0 n)).isSome]) (w.drewN k) := fun n k =>
    MapSI.look (w := w.drewN k) (show MapSI (w.drewN k) b2 L.length f2 from hmap) _ (Nat.le_trans (size_extract_le s 0 n) hs)
  have hsl := size_bs s
  obtain ⟨V, hV⟩ : ∃ V, longV L s = V := ⟨_, rfl⟩
  rw [hV]
  have HM := Lib.hid hm; have HR := Lib.hid hr; have HLK := Lib.hid hlook; have HSYM := Lib.hid hsym; have HSL := Lib.hid hsl; have HV := Lib.hid hV
  clear h1 h hr hm hlook hmap hsym hsl hV
  unfold maxLen at hs hc3
  go_enter Tryd.func76, Tryd.ntmps76
  go_wp2_with (go_at_call 30; refine HM.out.mono ?_; rintro e w' ⟨rfl, rfl⟩)
  go_loopw [13] (fun i wr => ∃ k : Nat, k ≤ 4 ∧ i = .int .i64 k ∧ (∀ j, j < k → symAt L (bs s) (4 - j) = false) ∧ ∃ m, wr = w.drewN m) (fun i _ => 4 - (RowKit.intOf i).toNat)
  case atStart => exact ⟨0, by omega, rfl, fun j hj => absurd hj (by omega), 0, rfl⟩
  case round =>
    obtain ⟨k, hk, rfl, hno, m, rfl⟩ := hrel
    have HNO := Lib.hid hno
    clear hno
    by_cases hlt : k < 4
    · have hkI : (k : Int) < 4 := by omega
      by_cases hlen : 4 - k ≤ s.size
      · have hlI : ¬ (s.size : Int) < 4 - (k : Int) := by omega
        have hcut := HLK.out (4 - k)
        have hcutI : ((4 : Int) - (k : Int)).toNat = 4 - k := by omega
        have hsy := HSYM.out (s.extract 0 (4 - k))
        rw [bs_pre] at hsy
        obtain ⟨hsome, hget⟩ := hsy
        have hat : symAt L (bs s) (4 - k) = (f2 (s.extract 0 (4 - k))).isSome := by
          unfold symAt
          rw [hsome, decide_eq_true (by rw [HSL.out]; exact hlen)]; rfl
        have hp1 : (0 : Int) ≤ 4 - (k : Int) := by omega
        have hp2 : (4 : Int) - (k : Int) ≤ (s.size : Int) := by omega
        cases hf : f2 (s.extract 0 (4 - k)) with
        | none =>
          rw [hf] at hat hcut
          simp only [Option.getD_none, Option.isSome_none] at hcut hat
          have HAT := Lib.hid hat; have hcut1 := hcut
          clear hat hsome hget hcut hf
          go_wp2
          go_quiet (fail)
          go_wp2
          go_roundw
          case rel => exact ⟨k + 1, by omega, by go_num, fun j hj => by
            rcases Nat.lt_or_ge j k with h | h
            · exact HNO.out j h
            · rw [show j = k by omega]; exact HAT.out, _, rfl⟩
          case measure => simp [RowKit.intOf]; omega
        | some i =>
          obtain ⟨kk, x, rfl, hx, hxs, -⟩ := hget i hf
          rw [hf] at hat hcut
          simp only [Option.getD_some, Option.isSome_some] at hcut hat
          have hlong := longN_at hlt HNO.out hat
          have hkk : kk < L.length := (List.getElem?_eq_some_iff.1 hx).1
          have hxe : L[kk] = x := (List.getElem?_eq_some_iff.1 hx).2
          obtain ⟨ad, rfl, had, hc0, -, -⟩ := nam_cells HR.out hkk
          rw [hxe, hxs] at hc0
          have hVe : V = .tuple #[.string (s.extract 0 (4 - k)), .bool true] := by
            rw [← HV.out]; unfold longV; rw [hlong, decide_eq_true (show 4 - k ≠ 0 by omega)]
          have hkkI : (kk : Int) < (L.length : Int) := by omega
          subst hVe
          clear hat hsome hget hf hlong hxe hx hxs HV
          go_wp2
          go_quiet (fail)
          go_wp2
          go_ret2
          exact ⟨rfl, _, rfl⟩
      · have hlI : (s.size : Int) < 4 - (k : Int) := by omega
        have hat : symAt L (bs s) (4 - k) = false := by
          unfold symAt
          rw [decide_eq_false (by rw [HSL.out]; exact hlen)]; rfl
        have HAT := Lib.hid hat
        clear hat hlen
        go_wp2
        go_roundw
        case rel => exact ⟨k + 1, by omega, by go_num, fun j hj => by
          rcases Nat.lt_or_ge j k with h | h
          · exact HNO.out j h
          · rw [show j = k by omega]; exact HAT.out, _, rfl⟩
        case measure => simp [RowKit.intOf]; omega
    · obtain rfl : k = 4 := by omega
      have hlong := longN_none HNO.out
      have hVe : V = .tuple #[.string ⟨#[]⟩, .bool false] := by
        rw [← HV.out]; unfold longV; rw [hlong]; simp; rfl
      subst hVe
      clear hlong HV
      go_wp2
      go_ret2
      exact ⟨rfl, _, rfl⟩
theorem hasSym_of {L : List Nam} {k : Nat} {x : Nam} (h : L[k]? = some x) : hasSym L (bs x.1) = true :=
  List.any_eq_true.2 ⟨x, List.mem_of_getElem? h, by simp⟩
set_option maxRecDepth 20000 in
set_option maxHeartbeats 1000000 in
/-- Sound, at a symbol of the inventory. -/
theorem invSound_any {w : World} {S : Nat → Prop} {g : Nat} {fs : List ByteArray} {L : List Nam} (s : ByteArray) (h : InvM w S g fs L) (hs : s.size ≤ maxLen) (hy : hasSym L (bs s) = true) : Calls Tryd.prog 77 #[wptr g, .string s] w fun e w' => e = .returned (.tuple #[sndV (soundOf L (bs s)), .bool true]) ∧ Below w.heap.size w w' := by
  obtain ⟨A, c, A2, c2, b1, b2, b3, f2, f3, h1, -, hr, ⟨-, -, hc2, hc3⟩, hmap, hsym, -⟩ := h.parts
  have hgl := h1.lt
  have c2' := h1.cell 2
  have c3' := h1.cell 3
  simp only [List.getElem?_toArray, List.getElem?_cons_zero, List.getElem?_cons_succ] at c2' c3'
  have hm := made_any (h.below ((Below.refl _ w).alloc (Nat.le_refl _) (.cells #[.int .u32 0, .int .u32 0] 39)))
  obtain ⟨hsome, hget⟩ := hsym s
  rw [hy] at hsome
  obtain ⟨i, hi⟩ := Option.isSome_iff_exists.1 hsome
  obtain ⟨kk, x, rfl, hx, hxs, hso⟩ := hget i hi
  have hlook := MapSI.look (w := w.alloc (.cells #[.int .u32 0, .int .u32 0] 39)) (hmap.below ((Below.refl _ w).alloc (Nat.le_refl _) _)) s hs
  rw [hi] at hlook
  simp only [Option.getD_some, Option.isSome_some] at hlook
  have hkk : kk < L.length := (List.getElem?_eq_some_iff.1 hx).1
  have hxe : L[kk] = x := (List.getElem?_eq_some_iff.1 hx).2
  obtain ⟨ad, rfl, had, -, hc1, hc2c⟩ := nam_cells (hr.alloc (Nat.le_refl _) (.cells #[.int .u32 0, .int .u32 0] 39)) hkk
  rw [hxe] at hc1 hc2c
  rw [hso]
  have hkkI : (kk : Int) < (L.length : Int) := by omega
  have hl256 := h.ok.l256
  have HM := Lib.hid hm
  have hb1 := Blk.new w 39 #[.int .u32 x.2.1, .int .u32 x.2.2]
  have g0 := hb1.cell 0
  have g1 := hb1.cell 1
  simp only [List.getElem?_toArray, List.getElem?_cons_zero, List.getElem?_cons_succ] at g0 g1
  have G0 := Lib.hid g0; have G1 := Lib.hid g1
  clear h1 h hr hm hmap hsym hsome hget hi hx hxs hso hxe hy hb1 g0 g1
  obtain ⟨xn, p, q⟩ := x
  simp only at *
  unfold maxLen at hs hc3
  go_enter Tryd.func77, Tryd.ntmps77
  go_wp2_with (go_at_call 30; refine HM.out.mono ?_; rintro e w' ⟨rfl, rfl⟩)
  exact bodyPost_ret (v := .tuple #[.agg #[.int .u32 p, .int .u32 q], .bool true]) (by simp [results, Tryd.results77, go_sem, G0.out, G1.out]) rfl ⟨rfl, (Below.refl _ _).alloc (Nat.le_refl _) _⟩
end Go.Proofs.YtohggdfplmlinaaDoor
