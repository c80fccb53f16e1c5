/-
  layer 39: made, wrong, letters and the iterator over the letters of a text. Conditions: an alphabet in memory as New makes it.
-/
import Derived.Test.YtcdpadggjkobjaaGreatDoorNew
import Derived.Test.YtcdpadggjkobjaaGreatDoorRange
import Derived.Test.YtcdpadggjkobjaaGreatDoorSpec4
import Derived.Sort.QuietIn
import Derived.LaidEqlPtr
namespace Go.Proofs.YtcdpadggjkobjaaGreatDoor
open Go.RowKit Go.Shelf

theorem made_any (g : Nat) (gs : List (List ByteArray)) (w : World) (h : Alph w g gs) :
    Calls Tryz.prog 41 #[.pointer (some ⟨g, 0, none⟩)] w fun e w' => e = .returned (.bool true) ∧ w = w' := by
  obtain ⟨base, v, mb, cnt, cs, h1, h2, _⟩ := h
  have hc := (h1.cell 1).trans h2.2.2.1
  clear h1 h2
  have hne : ∀ (m : Nat) (W : World), (binOp .neq 75 (.map (some m)) (.map none)).run Tryz.prog W = .ok (.bool true) W := fun m W => by kernel_rfl
  go_enter Tryz.func41, Tryz.ntmps41
  go_wp2
  go_ret
  exact ⟨rfl, rfl⟩
theorem wrong_any (g : Nat) (gs : List (List ByteArray)) (s : ByteArray) (w : World) (h : Alph w g gs) :
    Calls Tryz.prog 39 #[.pointer (some ⟨g, 0, none⟩), .string s] w fun e w' => e = .returned (.int .i64 (if 65536 < s.size then 11 else 0)) ∧ w = w' := by
  have hm := made_any g gs w h
  by_cases hs : 65536 < s.size
  · rw [if_pos hs]
    go_enter Tryz.func39, Tryz.ntmps39
    go_wp2_with (go_at_call 41; refine hm.mono ?_; rintro e w' ⟨rfl, rfl⟩)
    go_ret
    exact ⟨rfl, rfl⟩
  · rw [if_neg hs]
    go_enter Tryz.func39, Tryz.ntmps39
    go_wp2_with (go_at_call 41; refine hm.mono ?_; rintro e w' ⟨rfl, rfl⟩)
    go_ret
    exact ⟨rfl, rfl⟩
theorem letters_any (p : Value) (hp : ∃ a, p = .pointer a) (s : ByteArray) (w : World) :
    Calls Tryz.prog 40 #[p, .string s] w fun e w' =>
      e = .returned (.func (.func 66) #[] #[.pointer (some ⟨w.heap.size + 1, 0, none⟩), .pointer (some ⟨w.heap.size, 0, none⟩)]) ∧ w' = (w.alloc (.cells #[p] 26)).alloc (.cells #[.string s] 9) := by
  obtain ⟨a, rfl⟩ := hp
  go_enter Tryz.func40, Tryz.ntmps40
  go_wp2
  go_ret
  exact ⟨rfl, rfl⟩

abbrev encL (e : ByteArray × Int) : Array Value := #[.string e.1, .int .i64 e.2]
/-- What a round must keep for the iterator: what lay below n, and its two boxes. -/
def KeepL (n b0 b1 : Nat) (A B : World) : Prop := Below n A B ∧ B.heap[b0]? = A.heap[b0]? ∧ B.heap[b1]? = A.heap[b1]?
def restOf (b1 : Nat) (W : World) : Nat := match W.cell? ⟨b1, 0, none⟩ with | some (.string s) => s.size | _ => 0

set_option maxRecDepth 20000 in
set_option maxHeartbeats 4000000 in
theorem iter_any (g b0 b1 : Nat) (gs : List (List ByteArray)) (s : ByteArray) (w1 w0 : World) (hA : Alph w1 g gs) (hG : GoodG gs) (h10 : Below w1.heap.size w1 w0) (_hlt : w1.heap.size ≤ b0) (hb01 : b0 ≠ b1) (hlt1 : w1.heap.size ≤ b1)
    (hb0 : Blk w0 b0 26 #[.pointer (some ⟨g, 0, none⟩)]) (hb1 : Blk w0 b1 9 #[.string s]) (hs : s.size ≤ 65536) :
    IterAt Tryz.prog 66 #[.pointer (some ⟨b1, 0, none⟩), .pointer (some ⟨b0, 0, none⟩)] encL (fun r => r = b1) (KeepL w1.heap.size b0 b1) (fun xs => xs = strm gs s) (fun pre => pre <+: strm gs s) s.size w0 := by
  intro l J Jx W hW hJ hJx hY h0
  refine callsIn_of_wp Tryz.func66 rfl trivial ?_ rfl
  simp only [Tryz.ntmps66, List.size_toArray, List.length_cons, List.length_nil, Nat.reduceAdd, Nat.reduceSub, Array.replicate_succ, Array.replicate_zero, List.push_toArray, List.append_toArray, List.nil_append, List.cons_append]
  have HY := Lib.hid hY; have HJ := Lib.hid hJ; have HJX := Lib.hid hJx; clear hY hJ hJx
  have hB0 : Blk W b0 26 #[.pointer (some ⟨g, 0, none⟩)] := hb0.below hW hb0.lt
  have hB1 : Blk W b1 9 #[.string s] := hb1.below hW hb1.lt
  have hA0 : Below w1.heap.size w1 W := h10.trans (hW.mono h10.size)
  gi_wp2
  gi_loopw [4] (fun _ wr => ∃ (pre : List (ByteArray × Int)) (r : ByteArray), Blk wr b0 26 #[.pointer (some ⟨g, 0, none⟩)] ∧ Blk wr b1 9 #[.string r] ∧ Below w1.heap.size w1 wr ∧ r.size ≤ 65536 ∧ strm gs s = pre ++ strm gs r ∧ J pre wr)
    (fun _ wr => restOf b1 wr)
  case atStart => exact ⟨[], s, hB0, hB1, hA0, hs, rfl, h0⟩
  case round =>
    obtain ⟨pre, r, hb0r, hb1r, hAr, hrs, hst, hj⟩ := hrel
    have hA' := hA.below hAr
    have hc1 := hb1r.cell 0
    have hc0 := hb0r.cell 0
    simp only [List.getElem?_toArray, List.getElem?_cons_zero] at hc0 hc1
    have HST := Lib.hid hst; clear hst
    have hB0r := Lib.hid hb0r; have hB1r := Lib.hid hb1r; clear hb0r hb1r hB0 hB1 hA0 hb0 hb1 h10 hW h0
    by_cases hr0 : r.size = 0
    · have hre : (r.toList == []) = true := by
        rw [ByteArray.toList_eq]; have := bl_len r; rw [hr0] at this; simp [bl] at this; simp [this]
      gi_wp2
      go_end0
      exact ⟨⟨_, rfl⟩, .inl ⟨pre, by rw [HST.out, strm_nil gs hr0, List.append_nil], hj⟩⟩
    · have hrp : 0 < r.size := by omega
      have hre : (r.toList == []) = false := by
        rw [ByteArray.toList_eq, beq_eq_false_iff_ne]; intro h; have := bl_len r; rw [bl, h] at this; simp at this; omega
      have hx256 : (r[0].toNat : Int) < 256 := by have := r[0].toNat_lt; omega
      obtain ⟨base, v, mb, cnt, cs, hblk, hcs, hM, hmap⟩ := hA'
      have hcm := (hblk.cell 1).trans hcs.2.2.1
      have hcb := (hblk.cell (2 + r[0].toNat)).trans (hcs.2.2.2 r[0])
      have hf0 : firstB r = r[0] := by
        unfold firstB; cases hb0 : bl r with
        | nil => have := bl_len r; rw [hb0] at this; simp at this; omega
        | cons c t => have h0 : (bl r)[0]'(by rw [bl_len]; omega) = r[0] := rfl
                      rw [← h0]; simp [hb0]
      have hmn := mostF_nonneg (ents gs) r[0]
      obtain ⟨N, hN⟩ : ∃ N : Nat, min (r.size : Int) (mostF (ents gs) r[0]) = (N : Int) := ⟨(min (r.size : Int) (mostF (ents gs) r[0])).toNat, by omega⟩
      have hNr : N ≤ r.size := by omega
      have hNA : NoneAbove gs r N := noneAbove_start N (by rw [hf0]; exact hN.symm)
      generalize mostF (ents gs) r[0] = mv at hcb hmn hN
      have hlook : ∀ (n q : Nat), n ≤ r.size → (Instr.lookup 75 (.map (some mb)) (.string (r.extract 0 n)) true).run Tryz.prog (wr.drewN q) = .ok (.tuple #[.int .i64 ((placeF (ents gs) (r.extract 0 n)).getD 0), .bool (placeF (ents gs) (r.extract 0 n)).isSome]) (wr.drewN q) := fun n q hn =>
        MapSI.look (hmap.below (w' := wr.drewN q) ⟨rfl, rfl, rfl, Nat.le_refl _, fun _ _ => rfl⟩) _ (by have := takeB_size r n hn; unfold takeB at this; rw [this]; unfold maxLen; omega)
      have HL := Lib.hid hlook; have HNA := Lib.hid hNA; have HMAP := Lib.hid hmap; have HN := Lib.hid hN
      clear hlook hNA hmap hM hcs hblk hf0
      have hlk0 := HL.out N
      gi_wp2_with fail
      gi_quiet (fail)
      gi_wp2_with fail
      gi_quiet (fail)
      gi_wp2_with fail
      gi_loopw [4, 5, 6] (fun a b c wr2 => ∃ (n q : Nat), n ≤ r.size ∧ a = .int .i64 n ∧ b = .int .i64 ((placeF (ents gs) (r.extract 0 n)).getD 0) ∧ c = .bool (placeF (ents gs) (r.extract 0 n)).isSome ∧ NoneAbove gs r n ∧ wr2 = wr.drewN q) (fun a _ _ _ => (intOf a).toNat)
      case atStart => exact ⟨N, _, hNr, rfl, rfl, rfl, HNA.out, World.drewN_drewN _ _ _⟩
      case round =>
        obtain ⟨n, q, hn, rfl, rfl, rfl, hNA, rfl⟩ := hrel
        have HNA2 := Lib.hid hNA; clear hNA HNA hlk0 hN hNr
        have hjq : J pre (wr.drewN q) := HJ.out pre wr _ none hj ⟨rfl, rfl, rfl, Nat.le_refl _, fun _ _ _ => rfl⟩ (fun r e => by cases e)
        cases hpl : placeF (ents gs) (r.extract 0 n) with
        | some i =>
          have hlong : longest gs r = (r.extract 0 n, i) := longest_found hG hn HNA2.out hpl
          have hlen : pre.length < s.size := by
            have h1 := strm_length gs s.size s (Nat.le_refl _)
            rw [HST.out, List.length_append] at h1
            have h2 : 0 < (strm gs r).length := strm_pos gs hrp
            omega
          obtain ⟨fn, tmps, assign, body, hy, hR⟩ := HY.out pre (r.extract 0 n, i) (wr.drewN q) hjq hlen
          have HLO := Lib.hid hlong; have HPL := Lib.hid hpl; clear hlong hpl
          dsimp only [encL] at hy
          simp only [Option.getD_some, Option.isSome_some]
          have hi0 : 0 ≤ i := by
            have := HLO.out
            rcases longest_sound gs r with h' | ⟨e, _, h', _⟩
            · rw [h'] at this; injection this with h1 h2
              have h3 := takeB_size r n hn; unfold takeB at h3; rw [← h1] at h3
              have h4 : (ByteArray.empty).size = 0 := rfl
              rw [h4] at h3; subst h3
              have h5 := placeF_empty hG r; unfold takeB at h5; rw [HPL.out] at h5; cases h5
            · rw [h'] at this; injection this with _ h2; omega
          have hpos := longest_pos (gs := gs) (s := r) (by rw [HLO.out]; simp only; omega)
          rw [HLO.out] at hpos
          have hsz : (r.extract 0 n).size = n := takeB_size r n hn
          simp only [hsz] at hpos
          have hstep : strm gs s = (pre ++ [(r.extract 0 n, i)]) ++ strm gs (dropB r n) := by
            rw [HST.out, strm_cons gs hrp (by rw [HLO.out]; simp only; omega), HLO.out]; simp only [hsz, List.append_assoc, List.singleton_append]
          have HSTEP := Lib.hid hstep; have HSZ := Lib.hid hsz; clear hstep hsz
          obtain ⟨hn0, _⟩ := hpos
          gi_wp2_with fail
          refine hR.mono ?_
          rintro e W3 (⟨rfl, hJ3, hk3⟩ | ⟨rfl, hJx3⟩)
          · obtain ⟨hk3a, hk3b, hk3c⟩ := hk3
            have hb03 : Blk W3 b0 26 #[.pointer (some ⟨g, 0, none⟩)] := hk3b.trans hB0r.out
            have hb13 : Blk W3 b1 9 #[.string r] := hk3c.trans hB1r.out
            have hc13 := hb13.cell 0
            have hf13 := hb13.frozen 0
            simp only [List.getElem?_toArray, List.getElem?_cons_zero] at hc13
            have HB03 := Lib.hid hb03; have HB13 := Lib.hid hb13; have HK3 := Lib.hid hk3a
            clear hb03 hb13 hk3a hk3b hk3c hy hR
            gi_wp2
            go_roundw
            case rel =>
              refine ⟨pre ++ [(r.extract 0 n, i)], r.extract n r.size, HB03.out.far (p := ⟨b1, 0, none⟩) hb01 _, HB13.out.set_ 0 _, ?_, ?_, HSTEP.out, HJ.out _ W3 _ (some b1) hJ3 (grown_setCell _ _ _) (fun r e => by injection e with e; exact e.symm)⟩
              · exact (hAr.trans ((show Below w1.heap.size wr (wr.drewN q) from ⟨rfl, rfl, rfl, Nat.le_refl _, fun _ _ => rfl⟩).trans HK3.out)).setCell (p := ⟨b1, 0, none⟩) hlt1 _
              · have := dropB_size r n; unfold dropB at this; rw [this]; omega
            case measure =>
              have h1 : restOf b1 (W3.setCell ⟨b1, 0, none⟩ (.string (r.extract n r.size))) = r.size - n := by
                have := (HB13.out.set_ 0 (.string (r.extract n r.size))).cell 0
                unfold restOf; rw [this]
                have := dropB_size r n; unfold dropB at this; simp [this]
              have h2 : restOf b1 wr = r.size := by unfold restOf; rw [hc1]
              rw [h1, h2]; omega
          · gi_wp2
            refine bodyPost_ret (results_none rfl _ _ _) rfl ?_
            exact ⟨⟨_, rfl⟩, .inr ⟨pre ++ [(r.extract 0 n, i)], ⟨strm gs (dropB r n), HSTEP.out.symm⟩, hJx3⟩⟩
        | none =>
          simp only [Option.getD_none, Option.isSome_none]
          have HPL := Lib.hid hpl; clear hpl
          by_cases hn0 : n = 0
          · subst hn0
            have hlong : longest gs r = (ByteArray.empty, -1) := longest_missed HNA2.out
            have hfull : strm gs s = pre ++ [(ByteArray.empty, -1)] := by rw [HST.out, strm_none gs hrp (by rw [hlong]; decide)]
            have hlen : pre.length < s.size := by
              have h1 := strm_length gs s.size s (Nat.le_refl _)
              rw [HST.out, List.length_append] at h1
              have h2 : 0 < (strm gs r).length := strm_pos gs hrp
              omega
            obtain ⟨fn, tmps, assign, body, hy, hR⟩ := HY.out pre (ByteArray.empty, -1) (wr.drewN q) hjq hlen
            have HF := Lib.hid hfull; clear hfull hlong
            dsimp only [encL] at hy
            have hy2 : (Instr.yield l #[.string { data := #[] }, .int .i64 (-1)]).run Tryz.prog (wr.drewN q) = .ok (.round l fn tmps assign body) (wr.drewN q) := hy
            clear hy
            gi_wp2_with fail
            refine hR.mono ?_
            rintro e W3 (⟨rfl, hJ3, _⟩ | ⟨rfl, hJx3⟩)
            · gi_wp2
              refine bodyPost_ret (results_none rfl _ _ _) rfl ?_
              exact ⟨⟨_, rfl⟩, .inl ⟨_, HF.out.symm, hJ3⟩⟩
            · gi_wp2
              refine bodyPost_ret (results_none rfl _ _ _) rfl ?_
              exact ⟨⟨_, rfl⟩, .inr ⟨_, by rw [HF.out]; exact List.prefix_refl _, hJx3⟩⟩
          · obtain ⟨m, rfl⟩ : ∃ m, n = m + 1 := ⟨n - 1, by omega⟩
            have hNA3 : NoneAbove gs r m := noneAbove_down HNA2.out (by unfold takeB; exact HPL.out)
            have HNA3 := Lib.hid hNA3; clear hNA3
            have hlk1 := HL.out m
            have hmr : m ≤ r.size := by omega
            gi_wp2_with fail
            gi_quiet (fail)
            gi_wp2_with fail
            go_roundw
            case rel => exact ⟨m, _, hmr, rfl, rfl, rfl, HNA3.out, World.drewN_drewN _ _ _⟩
            case measure => simp [intOf]
end Go.Proofs.YtcdpadggjkobjaaGreatDoor
