/-
  layer 39: made, wrong, letters and the iterator over the letters of a text. Conditions: an alphabet in memory as New makes it.
-/
import Derived.Test.YtgkpoopiamicnaaDoorZaae
import Derived.Test.YtgkpoopiamicnaaDoorZaac
import Derived.Sort.QuietIn
import Derived.LaidEqlPtr
import Derived.Test.YtgkpoopiamicnaaDoorZaab
import Derived.BigQuiet
import Derived.Deep.QuietTactic
namespace Go.Proofs.YtgkpoopiamicnaaDoor
open Go.RowKit Go.Shelf

theorem made_any39 (g : Nat) (gs : List (List ByteArray)) (w : World) (h : Alph w g gs) :
    Calls Tryd.prog 89 #[.pointer (some ⟨g, 0, none⟩)] w fun e w' => e = .returned (.bool true) ∧ w = w' := by
  obtain ⟨base, v, mb, cnt, cs, h1, h2, _⟩ := h
  have hc := (h1.cell 1).trans h2.2.2.1
  clear h1 h2
  have hne : ∀ (m : Nat) (W : World), (binOp .neq 71 (.map (some m)) (.map none)).run Tryd.prog W = .ok (.bool true) W := fun m W => by kernel_rfl
  go_enter Tryd.func89, Tryd.ntmps89
  go_wp2
  go_ret
  exact ⟨rfl, rfl⟩
theorem wrong_any (g : Nat) (gs : List (List ByteArray)) (s : ByteArray) (w : World) (h : Alph w g gs) :
    Calls Tryd.prog 69 #[.pointer (some ⟨g, 0, none⟩), .string s] w fun e w' => e = .returned (.int .i64 (if 65536 < s.size then 11 else 0)) ∧ w = w' := by
  have hm := made_any39 g gs w h
  by_cases hs : 65536 < s.size
  · rw [if_pos hs]
    go_enter Tryd.func69, Tryd.ntmps69
    go_wp2_with (go_at_call 89; refine hm.mono ?_; rintro e w' ⟨rfl, rfl⟩)
    go_ret
    exact ⟨rfl, rfl⟩
  · rw [if_neg hs]
    go_enter Tryd.func69, Tryd.ntmps69
    go_wp2_with (go_at_call 89; refine hm.mono ?_; rintro e w' ⟨rfl, rfl⟩)
    go_ret
    exact ⟨rfl, rfl⟩
theorem letters_any (p : Value) (hp : ∃ a, p = .pointer a) (s : ByteArray) (w : World) :
    Calls Tryd.prog 70 #[p, .string s] w fun e w' =>
      e = .returned (.func (.func 90) #[] #[.pointer (some ⟨w.heap.size + 1, 0, none⟩), .pointer (some ⟨w.heap.size, 0, none⟩)]) ∧ w' = (w.alloc (.cells #[p] 39)).alloc (.cells #[.string s] 9) := by
  obtain ⟨a, rfl⟩ := hp
  go_enter Tryd.func70, Tryd.ntmps70
  go_wp2
  go_ret
  exact ⟨rfl, rfl⟩

abbrev encL (e : ByteArray × Int) : Array Value := #[.string e.1, .int .i64 e.2]
/-- What a round must keep for the iterator: what lay below n, and its two boxes. -/
def KeepL (n b0 b1 : Nat) (A B : World) : Prop := Below n A B ∧ B.heap[b0]? = A.heap[b0]? ∧ B.heap[b1]? = A.heap[b1]?
def restOf (b1 : Nat) (W : World) : Nat := match W.cell? ⟨b1, 0, none⟩ with | some (.string s) => s.size | _ => 0

set_option maxRecDepth 20000 in
set_option maxHeartbeats 4000000 in
theorem iter_any (g b0 b1 : Nat) (gs : List (List ByteArray)) (s : ByteArray) (w1 w0 : World) (hA : Alph w1 g gs) (hG : GoodG gs) (h10 : Below w1.heap.size w1 w0) (_hlt : w1.heap.size ≤ b0) (hb01 : b0 ≠ b1) (hlt1 : w1.heap.size ≤ b1)
    (hb0 : Blk w0 b0 39 #[.pointer (some ⟨g, 0, none⟩)]) (hb1 : Blk w0 b1 9 #[.string s]) (hs : s.size ≤ 65536) :
    IterAt Tryd.prog 90 #[.pointer (some ⟨b1, 0, none⟩), .pointer (some ⟨b0, 0, none⟩)] encL (fun r => r = b1) (KeepL w1.heap.size b0 b1) (fun xs => xs = strm gs s) (fun pre => pre <+: strm gs s) s.size w0 := by
  intro l J Jx W hW hJ hJx hY h0
  refine callsIn_of_wp Tryd.func90 rfl trivial ?_ rfl
  simp only [Tryd.ntmps90, List.size_toArray, List.length_cons, List.length_nil, Nat.reduceAdd, Nat.reduceSub, Array.replicate_succ, Array.replicate_zero, List.push_toArray, List.append_toArray, List.nil_append, List.cons_append]
  have HY := Lib.hid hY; have HJ := Lib.hid hJ; have HJX := Lib.hid hJx; clear hY hJ hJx
  have hB0 : Blk W b0 39 #[.pointer (some ⟨g, 0, none⟩)] := hb0.below hW hb0.lt
  have hB1 : Blk W b1 9 #[.string s] := hb1.below hW hb1.lt
  have hA0 : Below w1.heap.size w1 W := h10.trans (hW.mono h10.size)
  gi_wp2
  gi_loopw [4] (fun _ wr => ∃ (pre : List (ByteArray × Int)) (r : ByteArray), Blk wr b0 39 #[.pointer (some ⟨g, 0, none⟩)] ∧ Blk wr b1 9 #[.string r] ∧ Below w1.heap.size w1 wr ∧ r.size ≤ 65536 ∧ strm gs s = pre ++ strm gs r ∧ J pre wr)
    (fun _ wr => restOf b1 wr)
  case atStart => exact ⟨[], s, hB0, hB1, hA0, hs, rfl, h0⟩
  case round =>
    obtain ⟨pre, r, hb0r, hb1r, hAr, hrs, hst, hj⟩ := hrel
    have hA' := hA.below hAr
    have hc1 := hb1r.cell 0
    have hc0 := hb0r.cell 0
    simp only [List.getElem?_toArray, List.getElem?_cons_zero] at hc0 hc1
    have HST := Lib.hid hst; clear hst
    have hB0r := Lib.hid hb0r; have hB1r := Lib.hid hb1r; clear hb0r hb1r hB0 hB1 hA0 hb0 hb1 h10 hW h0
    by_cases hr0 : r.size = 0
    · have hre : (r.toList == []) = true := by
        rw [ByteArray.toList_eq]; have := bl_len r; rw [hr0] at this; simp [bl] at this; simp [this]
      gi_wp2
      go_end0
      exact ⟨⟨_, rfl⟩, .inl ⟨pre, by rw [HST.out, strm_nil gs hr0, List.append_nil], hj⟩⟩
    · have hrp : 0 < r.size := by omega
      have hre : (r.toList == []) = false := by
        rw [ByteArray.toList_eq, beq_eq_false_iff_ne]; intro h; have := bl_len r; rw [bl, h] at this; simp at this; omega
      have hx256 : (r[0].toNat : Int) < 256 := by have := r[0].toNat_lt; omega
      obtain ⟨base, v, mb, cnt, cs, hblk, hcs, hM, hmap⟩ := hA'
      have hcm := (hblk.cell 1).trans hcs.2.2.1
      have hcb := (hblk.cell (2 + r[0].toNat)).trans (hcs.2.2.2 r[0])
      have hf0 : firstB r = r[0] := by
        unfold firstB; cases hb0 : bl r with
        | nil => have := bl_len r; rw [hb0] at this; simp at this; omega
        | cons c t => have h0 : (bl r)[0]'(by rw [bl_len]; omega) = r[0] := rfl
                      rw [← h0]; simp [hb0]
      have hmn := mostF_nonneg (ents gs) r[0]
      obtain ⟨N, hN⟩ : ∃ N : Nat, min (r.size : Int) (mostF (ents gs) r[0]) = (N : Int) := ⟨(min (r.size : Int) (mostF (ents gs) r[0])).toNat, by omega⟩
      have hNr : N ≤ r.size := by omega
      have hNA : NoneAbove gs r N := noneAbove_start N (by rw [hf0]; exact hN.symm)
      generalize mostF (ents gs) r[0] = mv at hcb hmn hN
      have hlook : ∀ (n q : Nat), n ≤ r.size → (Instr.lookup 71 (.map (some mb)) (.string (r.extract 0 n)) true).run Tryd.prog (wr.drewN q) = .ok (.tuple #[.int .i64 ((placeF (ents gs) (r.extract 0 n)).getD 0), .bool (placeF (ents gs) (r.extract 0 n)).isSome]) (wr.drewN q) := fun n q hn =>
        MapSI.look (hmap.below (w' := wr.drewN q) ⟨rfl, rfl, rfl, Nat.le_refl _, fun _ _ => rfl⟩) _ (by have := takeB_size r n hn; unfold takeB at this; rw [this]; unfold maxLen; omega)
      have HL := Lib.hid hlook; have HNA := Lib.hid hNA; have HMAP := Lib.hid hmap; have HN := Lib.hid hN
      clear hlook hNA hmap hM hcs hblk hf0
      have hlk0 := HL.out N
      gi_wp2_with fail
      gi_quiet (fail)
      gi_wp2_with fail
      gi_quiet (fail)
      gi_wp2_with fail
      gi_loopw [4, 5, 6] (fun a b c wr2 => ∃ (n q : Nat), n ≤ r.size ∧ a = .int .i64 n ∧ b = .int .i64 ((placeF (ents gs) (r.extract 0 n)).getD 0) ∧ c = .bool (placeF (ents gs) (r.extract 0 n)).isSome ∧ NoneAbove gs r n ∧ wr2 = wr.drewN q) (fun a _ _ _ => (RowKit.intOf a).toNat)
      case atStart => exact ⟨N, _, hNr, rfl, rfl, rfl, HNA.out, World.drewN_drewN _ _ _⟩
      case round =>
        obtain ⟨n, q, hn, rfl, rfl, rfl, hNA, rfl⟩ := hrel
        have HNA2 := Lib.hid hNA; clear hNA HNA hlk0 hN hNr
        have hjq : J pre (wr.drewN q) := HJ.out pre wr _ none hj ⟨rfl, rfl, rfl, Nat.le_refl _, fun _ _ _ => rfl⟩ (fun r e => by cases e)
        cases hpl : placeF (ents gs) (r.extract 0 n) with
        | some i =>
          have hlong : longest gs r = (r.extract 0 n, i) := longest_found hG hn HNA2.out hpl
          have hlen : pre.length < s.size := by
            have h1 := strm_length gs s.size s (Nat.le_refl _)
            rw [HST.out, List.length_append] at h1
            have h2 : 0 < (strm gs r).length := strm_pos gs hrp
            omega
          obtain ⟨fn, tmps, assign, body, hy, hR⟩ := HY.out pre (r.extract 0 n, i) (wr.drewN q) hjq hlen
          have HLO := Lib.hid hlong; have HPL := Lib.hid hpl; clear hlong hpl
          dsimp only [encL] at hy
          simp only [Option.getD_some, Option.isSome_some]
          have hi0 : 0 ≤ i := by
            have := HLO.out
            rcases longest_sound gs r with h' | ⟨e, _, h', _⟩
            · rw [h'] at this; injection this with h1 h2
              have h3 := takeB_size r n hn; unfold takeB at h3; rw [← h1] at h3
              have h4 : (ByteArray.empty).size = 0 := rfl
              rw [h4] at h3; subst h3
              have h5 := placeF_empty hG r; unfold takeB at h5; rw [HPL.out] at h5; cases h5
            · rw [h'] at this; injection this with _ h2; omega
          have hpos := longest_pos (gs := gs) (s := r) (by rw [HLO.out]; simp only; omega)
          rw [HLO.out] at hpos
          have hsz : (r.extract 0 n).size = n := takeB_size r n hn
          simp only [hsz] at hpos
          have hstep : strm gs s = (pre ++ [(r.extract 0 n, i)]) ++ strm gs (dropB r n) := by
            rw [HST.out, strm_cons gs hrp (by rw [HLO.out]; simp only; omega), HLO.out]; simp only [hsz, List.append_assoc, List.singleton_append]
          have HSTEP := Lib.hid hstep; have HSZ := Lib.hid hsz; clear hstep hsz
          obtain ⟨hn0, _⟩ := hpos
          gi_wp2_with fail
          refine hR.mono ?_
          rintro e W3 (⟨rfl, hJ3, hk3⟩ | ⟨rfl, hJx3⟩)
          · obtain ⟨hk3a, hk3b, hk3c⟩ := hk3
            have hb03 : Blk W3 b0 39 #[.pointer (some ⟨g, 0, none⟩)] := hk3b.trans hB0r.out
            have hb13 : Blk W3 b1 9 #[.string r] := hk3c.trans hB1r.out
            have hc13 := hb13.cell 0
            have hf13 := hb13.frozen 0
            simp only [List.getElem?_toArray, List.getElem?_cons_zero] at hc13
            have HB03 := Lib.hid hb03; have HB13 := Lib.hid hb13; have HK3 := Lib.hid hk3a
            clear hb03 hb13 hk3a hk3b hk3c hy hR
            gi_wp2
            go_roundw
            case rel =>
              refine ⟨pre ++ [(r.extract 0 n, i)], r.extract n r.size, HB03.out.far (p := ⟨b1, 0, none⟩) hb01 _, HB13.out.set_ 0 _, ?_, ?_, HSTEP.out, HJ.out _ W3 _ (some b1) hJ3 (grown_setCell _ _ _) (fun r e => by injection e with e; exact e.symm)⟩
              · exact (hAr.trans ((show Below w1.heap.size wr (wr.drewN q) from ⟨rfl, rfl, rfl, Nat.le_refl _, fun _ _ => rfl⟩).trans HK3.out)).setCell (p := ⟨b1, 0, none⟩) hlt1 _
              · have := dropB_size r n; unfold dropB at this; rw [this]; omega
            case measure =>
              have h1 : restOf b1 (W3.setCell ⟨b1, 0, none⟩ (.string (r.extract n r.size))) = r.size - n := by
                have := (HB13.out.set_ 0 (.string (r.extract n r.size))).cell 0
                unfold restOf; rw [this]
                have := dropB_size r n; unfold dropB at this; simp [this]
              have h2 : restOf b1 wr = r.size := by unfold restOf; rw [hc1]
              rw [h1, h2]; omega
          · gi_wp2
            refine bodyPost_ret (results_none rfl _ _ _) rfl ?_
            exact ⟨⟨_, rfl⟩, .inr ⟨pre ++ [(r.extract 0 n, i)], ⟨strm gs (dropB r n), HSTEP.out.symm⟩, hJx3⟩⟩
        | none =>
          simp only [Option.getD_none, Option.isSome_none]
          have HPL := Lib.hid hpl; clear hpl
          by_cases hn0 : n = 0
          · subst hn0
            have hlong : longest gs r = (ByteArray.empty, -1) := longest_missed HNA2.out
            have hfull : strm gs s = pre ++ [(ByteArray.empty, -1)] := by rw [HST.out, strm_none gs hrp (by rw [hlong]; decide)]
            have hlen : pre.length < s.size := by
              have h1 := strm_length gs s.size s (Nat.le_refl _)
              rw [HST.out, List.length_append] at h1
              have h2 : 0 < (strm gs r).length := strm_pos gs hrp
              omega
            obtain ⟨fn, tmps, assign, body, hy, hR⟩ := HY.out pre (ByteArray.empty, -1) (wr.drewN q) hjq hlen
            have HF := Lib.hid hfull; clear hfull hlong
            dsimp only [encL] at hy
            have hy2 : (Instr.yield l #[.string { data := #[] }, .int .i64 (-1)]).run Tryd.prog (wr.drewN q) = .ok (.round l fn tmps assign body) (wr.drewN q) := hy
            clear hy
            gi_wp2_with fail
            refine hR.mono ?_
            rintro e W3 (⟨rfl, hJ3, _⟩ | ⟨rfl, hJx3⟩)
            · gi_wp2
              refine bodyPost_ret (results_none rfl _ _ _) rfl ?_
              exact ⟨⟨_, rfl⟩, .inl ⟨_, HF.out.symm, hJ3⟩⟩
            · gi_wp2
              refine bodyPost_ret (results_none rfl _ _ _) rfl ?_
              exact ⟨⟨_, rfl⟩, .inr ⟨_, by rw [HF.out]; exact List.prefix_refl _, hJx3⟩⟩
          · obtain ⟨m, rfl⟩ : ∃ m, n = m + 1 := ⟨n - 1, by omega⟩
            have hNA3 : NoneAbove gs r m := noneAbove_down HNA2.out (by unfold takeB; exact HPL.out)
            have HNA3 := Lib.hid hNA3; clear hNA3
            have hlk1 := HL.out m
            have hmr : m ≤ r.size := by omega
            gi_wp2_with fail
            gi_quiet (fail)
            gi_wp2_with fail
            go_roundw
            case rel => exact ⟨m, _, hmr, rfl, rfl, rfl, HNA3.out, World.drewN_drewN _ _ _⟩
            case measure => simp [RowKit.intOf]
end Go.Proofs.YtgkpoopiamicnaaDoor
namespace Go.Proofs.YtgkpoopiamicnaaDoor
open Go.RowKit

def SplitPost39 (w : World) (r : Int × List (ByteArray × Int)) (e : Ending) (w' : World) : Prop :=
  ∃ v1, e = .returned (.tuple #[v1, .int .i64 r.1]) ∧ w'.ownsRow w.heap.size 9 1 v1 r.2.length (strs (letS r.2)) ∧ Below w.heap.size w w'
def KeyPost (w : World) (r : Int × List (ByteArray × Int)) (e : Ending) (w' : World) : Prop :=
  ∃ v2, e = .returned (.tuple #[v2, .int .i64 r.1]) ∧ w'.ownsRow w.heap.size 3 1 v2 r.2.length (ints (keyS r.2)) ∧ Below w.heap.size w w'

/-- A call that only reads. -/
def Quietly (w : World) (v : Value) (e : Ending) (w' : World) : Prop := e = .returned v ∧ ∃ q, w' = w.drewN q
theorem eq_of_take {α : Type} {a b : List α} {n : Nat} (ha : a.length = n) (hb : b.length = n) (h : a.take n = b.take n) : a = b := by
  rw [List.take_of_length_le (by omega), List.take_of_length_le (by omega)] at h; exact h

end Go.Proofs.YtgkpoopiamicnaaDoor
namespace Go.Proofs.YtgkpoopiamicnaaDoor
open Go.RowKit Go.Shelf
attribute [local go_sem] Oper.semAt_some

def AllPos (pre : List (ByteArray × Int)) : Prop := ∀ e ∈ pre, ¬ e.2 < 0
def SomeNeg (pre : List (ByteArray × Int)) : Prop := ∃ e ∈ pre, e.2 < 0
theorem keepL_set {n b0 b1 : Nat} {W : World} {p : Addr} {u : Value} (hp : n ≤ p.block) (h0 : p.block ≠ b0) (h1 : p.block ≠ b1) : KeepL n b0 b1 W (W.setCell p u) :=
  ⟨(Below.refl n W).setCell hp u, Below.heap_setCell _ _ _ _ (fun e => h0 e.symm), Below.heap_setCell _ _ _ _ (fun e => h1 e.symm)⟩
theorem keepL_trans {n b0 b1 : Nat} {A B C : World} (h : KeepL n b0 b1 A B) (k : KeepL n b0 b1 B C) : KeepL n b0 b1 A C := ⟨h.1.trans k.1, k.2.1.trans h.2.1, k.2.2.trans h.2.2⟩
theorem keepL_alloc {n b0 b1 : Nat} {W : World} (o : Obj) (hn : n ≤ W.heap.size) (h0 : b0 < W.heap.size) (h1 : b1 < W.heap.size) : KeepL n b0 b1 W (W.alloc o) :=
  ⟨(Below.refl n W).alloc hn o, Below.heap_alloc _ _ _ h0, Below.heap_alloc _ _ _ h1⟩
theorem keepL_grown {n b0 b1 : Nat} {W W' : World} {row : Option Nat} (hg : W.grownBy W' row) (hn : n ≤ W.heap.size) (h0 : b0 < W.heap.size) (h1 : b1 < W.heap.size) (hr : ∀ r, row = some r → n ≤ r ∧ r ≠ b0 ∧ r ≠ b1) : KeepL n b0 b1 W W' :=
  ⟨(Below.refl n W).grown hg hn (fun k e => (hr k e).1), hg.block _ h0 (fun e => (hr _ e.symm).2.1 rfl), hg.block _ h1 (fun e => (hr _ e.symm).2.2 rfl)⟩
end Go.Proofs.YtgkpoopiamicnaaDoor
namespace Go.Proofs.YtgkpoopiamicnaaDoor
open Go.RowKit Go.Shelf
attribute [local go_sem] Oper.semAt_some

set_option maxRecDepth 20000 in
set_option maxHeartbeats 4000000 in
theorem key_prg (g : Nat) (gs : List (List ByteArray)) (s : ByteArray) (w : World) (hA : Alph w g gs) (hG : GoodG gs) :
    Calls Tryd.prog 46 #[.pointer (some ⟨g, 0, none⟩), .string s] w (KeyPost w (readRes gs s)) := by
  obtain ⟨i0, hi, hz0, hz1, hz2⟩ := info_parts info_int
  refine (callsIn_wide (n := 4)).1 ?_
  refine callsIn_of_wp_marks Tryd.func46 rfl trivial ?_ rfl
  simp only [Tryd.ntmps46, List.size_toArray, List.length_cons, List.length_nil, Nat.reduceAdd, Nat.reduceSub, Array.replicate_succ, Array.replicate_zero, List.push_toArray, List.append_toArray, List.nil_append, List.cons_append]
  have hb2 : Below w.heap.size w ((w.alloc (.cells #[.slice none 0 0] 81)).alloc (.cells #[.int .i64 0] 30)) := ((Below.refl _ w).alloc (Nat.le_refl _) _).alloc (by simp) _
  have hwr := fun W (hW : Below w.heap.size w W) => wrong_any g gs s W (hA.below hW)
  have HW := Lib.hid hwr; clear hwr
  by_cases hs : 65536 < s.size
  · have hR : readRes gs s = (11, []) := by unfold readRes; rw [if_pos hs]
    have HR := Lib.hid hR; clear hR
    gi_wp2_with (refine ⟨trivial, ?_⟩; gi_at_call 69; refine callsIn_wide.2 ((HW.out _ hb2).mono ?_); rw [if_pos hs]; rintro e w' ⟨rfl, rfl⟩)
    refine ⟨.tuple #[.slice none 0 0, .int .i64 11], by simp [results, Tryd.results46, go_sem], ?_⟩
    rw [HR.out]
    exact ⟨_, rfl, World.ownsRow_nil _ _ _ _, ((Below.refl _ w).alloc (Nat.le_refl _) _).alloc (by simp) _⟩
  · have hR : readRes gs s = match parse gs s with | none => (10, []) | some es => (0, es) := by unfold readRes; rw [if_neg hs]; cases parse gs s <;> rfl
    have HR := Lib.hid hR; clear hR
    gi_wp2_with (first
      | (refine ⟨trivial, ?_⟩; gi_at_call 69; refine callsIn_wide.2 ((HW.out _ hb2).mono ?_); rw [if_neg hs]; rintro e w' ⟨rfl, rfl⟩)
      | (refine ⟨trivial, ?_⟩; gi_at_call 70; refine callsIn_wide.2 ((letters_any _ ⟨_, rfl⟩ _ _).mono ?_); rintro e w' ⟨rfl, rfl⟩))
    obtain ⟨W0, hW0⟩ : ∃ W0, ((((w.alloc (.cells #[.slice none 0 0] 81)).alloc (.cells #[.int .i64 0] 30)).alloc (.cells #[.slice none 0 0] 81)).alloc (.cells #[.pointer (some ⟨g, 0, none⟩)] 39)).alloc (.cells #[.string s] 9) = W0 := ⟨_, rfl⟩
    rw [hW0]
    have hsz : W0.heap.size = w.heap.size + 5 := by rw [← hW0]; simp
    have hbW : Below w.heap.size w W0 := by
      rw [← hW0]; exact (((((Below.refl _ w).alloc (Nat.le_refl _) _).alloc (by simp) _).alloc (by simp; omega) _).alloc (by simp; omega) _).alloc (by simp; omega) _
    have k0 : Blk W0 w.heap.size 81 #[.slice none 0 0] := by
      rw [← hW0]; exact ((((Blk.new w _ _).alloc _).alloc _).alloc _).alloc _
    have k1 : Blk W0 (w.heap.size + 1) 30 #[.int .i64 0] := by
      rw [← hW0]
      have := Blk.new (w.alloc (.cells #[.slice none 0 0] 81)) 30 #[.int .i64 0]
      rw [World.size_alloc] at this; exact ((this.alloc _).alloc _).alloc _
    have k2 : Blk W0 (w.heap.size + 2) 81 #[.slice none 0 0] := by
      rw [← hW0]
      have := Blk.new ((w.alloc (.cells #[.slice none 0 0] 81)).alloc (.cells #[.int .i64 0] 30)) 81 #[.slice none 0 0]
      simp only [World.size_alloc] at this; exact (this.alloc _).alloc _
    have k3 : Blk W0 (w.heap.size + 3) 39 #[.pointer (some ⟨g, 0, none⟩)] := by
      rw [← hW0]
      have := Blk.new (((w.alloc (.cells #[.slice none 0 0] 81)).alloc (.cells #[.int .i64 0] 30)).alloc (.cells #[.slice none 0 0] 81)) 39 #[.pointer (some ⟨g, 0, none⟩)]
      simp only [World.size_alloc] at this; exact this.alloc _
    have k4 : Blk W0 (w.heap.size + 4) 9 #[.string s] := by
      rw [← hW0]
      have := Blk.new ((((w.alloc (.cells #[.slice none 0 0] 81)).alloc (.cells #[.int .i64 0] 30)).alloc (.cells #[.slice none 0 0] 81)).alloc (.cells #[.pointer (some ⟨g, 0, none⟩)] 39)) 9 #[.string s]
      simp only [World.size_alloc] at this; exact this
    clear hW0
    have hit := iter_any g (w.heap.size + 3) (w.heap.size + 4) gs s w W0 hA hG hbW (by omega) (by omega) (by omega) k3 k4 (by omega)
    refine range_law (gf := 90) (lb := #[.pointer (some ⟨w.heap.size + 4, 0, none⟩), .pointer (some ⟨w.heap.size + 3, 0, none⟩)]) rfl (enters_of Tryd.func90 (by kernel_rfl) rfl) hit (fun r e => by omega)
      (fun h k => ⟨h.1.trans k.1, k.2.1.trans h.2.1, k.2.2.trans h.2.2⟩) (fun W l o o' hl h _ => ⟨below_put (by omega) h, World.putObj_heap_other (by omega), World.putObj_heap_other (by omega)⟩) (Below.refl _ _) (fun _ => rfl)
      (fun pre W => ((∃ v, Blk W (w.heap.size + 2) 81 #[v] ∧ W.ownsRow (w.heap.size + 5) 3 1 v pre.length (ints (keyS pre))) ∧ AllPos pre) ∧ (Blk W w.heap.size 81 #[.slice none 0 0] ∧ Blk W (w.heap.size + 1) 30 #[.int .i64 0]) ∧ Below w.heap.size w W)
      (fun c pre W => (c = .ret ∧ SomeNeg pre) ∧ (Blk W w.heap.size 81 #[.slice none 0 0] ∧ Blk W (w.heap.size + 1) 30 #[.int .i64 10]) ∧ Below w.heap.size w W)
      ?hI ?hIx ?h0 (fun x => { tmps := #[.pointer (some ⟨g, 0, none⟩), .string s, undef, undef, .pointer (some ⟨w.heap.size, 0, none⟩), .pointer (some ⟨w.heap.size + 1, 0, none⟩), .int .i64 0, .pointer (some ⟨w.heap.size + 2, 0, none⟩), undef, .int .i64 x.2, .pointer (some ⟨g, 0, none⟩), .string s, .int .i64 0, .int .i64 0, .bool false, undef, .pointer (some ⟨g, 0, none⟩), .string s, .func (.func 90) #[] #[.pointer (some ⟨w.heap.size + 4, 0, none⟩), .pointer (some ⟨w.heap.size + 3, 0, none⟩)], .string x.1, .int .i64 x.2, undef, undef, undef, undef, undef, undef, undef], defers := [] }) ?assign ?body ?done ?stop
    case hI =>
      refine AbidesB.and ?_ (AbidesB.and ?_ (abides_below (Nat.le_refl _) (by omega) (fun r e => by omega)))
      · rintro pre A B row ⟨⟨v, h1, h2⟩, h3⟩ hg hr
        exact ⟨⟨v, h1.turn hg hr (by omega), own_turn h2 hg hr (fun r e => by omega)⟩, h3⟩
      · rintro pre A B row ⟨h1, h2⟩ hg hr
        exact ⟨h1.turn hg hr (by omega), h2.turn hg hr (by omega)⟩
    case hIx =>
      intro c
      refine AbidesB.and (AbidesB.pure_ _ _ _) (AbidesB.and ?_ (abides_below (Nat.le_refl _) (by omega) (fun r e => by omega)))
      rintro pre A B row ⟨h1, h2⟩ hg hr
      exact ⟨h1.turn hg hr (by omega), h2.turn hg hr (by omega)⟩
    case h0 => exact ⟨⟨⟨_, k2, World.ownsRow_nil _ _ _ _⟩, fun e he => by cases he⟩, ⟨k0, k1⟩, hbW⟩
    case assign =>
      intro l x W K hK
      gi_wp2
      exact hK
    case body =>
      rintro l pre ⟨x, i⟩ W hWsz ⟨⟨⟨v, hv, hrow⟩, hpre⟩, ⟨h0, h1⟩, hB⟩ hlen
      have HPRE := Lib.hid hpre; clear hpre
      by_cases hneg : i < 0
      · have c0 := h0.cell 0
        have c1 := h1.cell 0
        simp only [List.getElem?_toArray, List.getElem?_cons_zero] at c0 c1
        have f0 := h0.frozen 0
        have f1 := h1.frozen 0
        have H0 := Lib.hid h0; have H1 := Lib.hid h1
        clear h0 h1 hv hrow
        gi_wp2
        refine ⟨(KeepsOthers.setCell _ _ _).trans (KeepsOthers.setCell _ _ _), ⟨rfl, (x, i), by simp, hneg⟩, ⟨?_, ?_⟩, (hB.setCell (p := ⟨w.heap.size, 0, none⟩) (Nat.le_refl _) _).setCell (p := ⟨w.heap.size + 1, 0, none⟩) (by simp) _⟩
        · exact (H0.out.set_ 0 (.slice none 0 0)).far (p := ⟨w.heap.size + 1, 0, none⟩) (by simp) _
        · exact (H1.out.far (p := ⟨w.heap.size, 0, none⟩) (by simp) (.slice none 0 0)).set_ 0 _
      · have c2 := hv.cell 0
        have f2 := hv.frozen 0
        simp only [List.getElem?_toArray, List.getElem?_cons_zero] at c2
        have H0 := Lib.hid h0; have H1 := Lib.hid h1
        clear h0 h1
        obtain ⟨Av, cv, rfl, hcv1, hcv2⟩ := ownsRow_form hrow
        gi_wp2_with (gi_at_builtin; refine wpListIn_append_own _ rfl _ _ 81 rfl (w.heap.size + 5) 3 i0 (.int .i64 0) 1 8 Tryd.underlying81 hi hz0 hz1 hz2 rfl (by decide) _ _ _ rfl (hrow.alloc _) ⟨W.heap.size, 0, none⟩ 1 1 [.int .i64 i] rfl rfl (cell_one_new _ _ _) (by simp [Value.oneCell']) (by unfold maxLen; omega) (by omega) (by simp; omega) ?_; intro v' w1 hown' hgrow _; obtain ⟨A2, c2', rfl, _, _⟩ := ownsRow_form hown'; have hv1 := (hv.alloc (.cells #[.int .i64 i] 3)).grown hgrow (fun e => by have := (hrow.lt _ e.symm).1; omega); have hc3 := (hv1.cell 0); simp only [List.getElem?_toArray, List.getElem?_cons_zero] at hc3; have hf3 := hv1.frozen 0)
        have hcell := own_cells (hrow.alloc (.cells #[.int .i64 i] 3))
        have hlow := fun g hg => (hrow.lt g hg).1
        have hB1 := ((hB.alloc hB.size (.cells #[.int .i64 i] 3)).grown hgrow (by simp; omega) (fun g hg => by have := hlow g hg; omega))
        refine ⟨((KeepsOthers.alloc _ _).trans (KeepsOthers.of_grownBy hgrow hcell)).trans (KeepsOthers.setCell _ _ _), ?_, ⟨⟨_, hv1.set_ 0 _, ?_⟩, ?_⟩, ⟨?_, ?_⟩, hB1.setCell (p := ⟨w.heap.size + 2, 0, none⟩) (by simp) _⟩
        · exact keepL_trans (keepL_trans (keepL_alloc _ (by omega) (by omega) (by omega)) (keepL_grown hgrow (by simp; omega) (by simp; omega) (by simp; omega) (fun r e => by have := hlow r e; omega))) (keepL_set (by simp) (by simp) (by simp))
        · have := ownsRow_setCell_below (hown') (a := ⟨w.heap.size + 2, 0, none⟩) (by simp) (.slice A2 (pre.length + 1) c2')
          simpa [keyS] using this
        · intro e he
          rw [List.mem_append, List.mem_singleton] at he
          rcases he with he | rfl
          · exact HPRE.out e he
          · exact fun h => absurd h (by simp only; omega)
        · exact (((H0.out.alloc _).grown hgrow (fun e => by have := hlow _ e.symm; omega))).far (p := ⟨w.heap.size + 2, 0, none⟩) (by simp) _
        · exact (((H1.out.alloc _).grown hgrow (fun e => by have := hlow _ e.symm; omega))).far (p := ⟨w.heap.size + 2, 0, none⟩) (by simp) _
    case done =>
      rintro D xs W hD rfl ⟨⟨⟨v, hv, hrow⟩, hpos⟩, ⟨h0, h1⟩, hB⟩ hK
      have hRE : readRes gs s = (0, strm gs s) := by rw [HR.out, parse_some_of hpos]
      have HRE := Lib.hid hRE; clear hRE
      have c0 := h0.cell 0
      have c1 := h1.cell 0
      have c2 := hv.cell 0
      simp only [List.getElem?_toArray, List.getElem?_cons_zero] at c0 c1 c2
      have f0 := h0.frozen 0
      have f1 := h1.frozen 0
      obtain ⟨Av, cv, rfl, hcv1, hcv2⟩ := ownsRow_form hrow
      have k0' := (h0.set_ 0 (.slice Av (strm gs s).length cv)).far (p := ⟨w.heap.size + 1, 0, none⟩) (by simp) (.int .i64 0)
      have k1' := (h1.far (p := ⟨w.heap.size, 0, none⟩) (by simp) (.slice Av (strm gs s).length cv)).set_ 0 (.int .i64 0)
      have hK1 := ((KeepsOthers.setCell W ⟨w.heap.size, 0, none⟩ (.slice Av (strm gs s).length cv)).trans (KeepsOthers.setCell _ ⟨w.heap.size + 1, 0, none⟩ (.int .i64 0))).same D _ hK rfl
      have hrow1 := ownsRow_setCell_below (ownsRow_setCell_below hrow (a := ⟨w.heap.size, 0, none⟩) (by simp) (.slice Av (strm gs s).length cv)) (a := ⟨w.heap.size + 1, 0, none⟩) (by simp) (.int .i64 0)
      have hB1 := (hB.setCell (p := ⟨w.heap.size, 0, none⟩) (Nat.le_refl _) (.slice Av (strm gs s).length cv)).setCell (p := ⟨w.heap.size + 1, 0, none⟩) (by simp) (.int .i64 0)
      have hDs : D ≠ w.heap.size ∧ D ≠ w.heap.size + 1 := ⟨by omega, by omega⟩
      have ha := (Blk.cell (show Blk ((((W.setCell ⟨w.heap.size, 0, none⟩ (.slice Av (strm gs s).length cv)).setCell ⟨w.heap.size + 1, 0, none⟩ (.int .i64 0))).putObj D (.deferred none)) w.heap.size 81 _ from (World.putObj_heap_other (by omega)).trans k0') 0)
      have hb := (Blk.cell (show Blk ((((W.setCell ⟨w.heap.size, 0, none⟩ (.slice Av (strm gs s).length cv)).setCell ⟨w.heap.size + 1, 0, none⟩ (.int .i64 0))).putObj D (.deferred none)) (w.heap.size + 1) 30 _ from (World.putObj_heap_other (by omega)).trans k1') 0)
      have hro := own_mono (ownsRow_putObj hrow1 (.deferred none) hK1 rfl) (show w.heap.size ≤ w.heap.size + 5 by omega)
      have hBo := hB1.trans (below_put (n := w.heap.size) (o' := .deferred none) (show w.heap.size ≤ D by omega) hK1)
      clear k0' k1' hrow1 hB1
      gi_wp2
      refine ⟨by simp, .inl ⟨_, _, rfl, run_takeDeferred hK1, ?_⟩⟩
      generalize (((W.setCell ⟨w.heap.size, 0, none⟩ (.slice Av (strm gs s).length cv)).setCell ⟨w.heap.size + 1, 0, none⟩ (.int .i64 0))).putObj D (.deferred none) = WF at *
      refine ⟨.tuple #[.slice Av (strm gs s).length cv, .int .i64 0], by simp [results, Tryd.results46, go_sem, ha, hb], ?_⟩
      rw [HRE.out]
      exact ⟨_, rfl, hro, hBo⟩
    case stop =>
      rintro D c pre W hD hpre ⟨⟨rfl, hneg⟩, ⟨h0, h1⟩, hB⟩ hK
      have hRE : readRes gs s = (10, []) := by
        obtain ⟨e, he, hn⟩ := hneg
        rw [HR.out, parse_none_of ⟨e, hpre.subset he, hn⟩]
      have HRE := Lib.hid hRE; clear hRE
      have ha := (Blk.cell (show Blk (W.putObj D (.deferred none)) w.heap.size 81 _ from (World.putObj_heap_other (by omega)).trans h0) 0)
      have hb := (Blk.cell (show Blk (W.putObj D (.deferred none)) (w.heap.size + 1) 30 _ from (World.putObj_heap_other (by omega)).trans h1) 0)
      have hBo := hB.trans (below_put (n := w.heap.size) (o' := .deferred none) (show w.heap.size ≤ D by omega) hK)
      gi_wp2
      refine ⟨by simp, .inl ⟨_, _, rfl, run_takeDeferred hK, ?_⟩⟩
      generalize W.putObj D (.deferred none) = WF at *
      refine ⟨.tuple #[.slice none 0 0, .int .i64 10], by simp [results, Tryd.results46, go_sem, ha, hb], ?_⟩
      rw [HRE.out]
      exact ⟨_, rfl, World.ownsRow_nil _ _ _ _, hBo⟩
end Go.Proofs.YtgkpoopiamicnaaDoor
namespace Go.Proofs.YtgkpoopiamicnaaDoor
open Go.RowKit

/-- The alphabet of New, or none where New returned an error. -/
def groupsO (ss : List ByteArray) : Option (List (List ByteArray)) := if newErr ss = 0 then some (groupsB ss) else none
def AlphO (w : World) (p : Option Addr) : Option (List (List ByteArray)) → Prop
  | none => p = none
  | some gs => ∃ g, p = some ⟨g, 0, none⟩ ∧ Alph w g gs ∧ GoodG gs
theorem AlphO.below {w w' : World} {p : Option Addr} {og : Option (List (List ByteArray))} (h : AlphO w p og) (hb : Below w.heap.size w w') : AlphO w' p og := by
  cases og with
  | none => exact h
  | some gs => obtain ⟨g, h1, h2, h3⟩ := h; exact ⟨g, h1, h2.below hb, h3⟩
end Go.Proofs.YtgkpoopiamicnaaDoor
namespace Go.Proofs.YtgkpoopiamicnaaDoor
open Go.RowKit

def readResO (og : Option (List (List ByteArray))) (s : ByteArray) : Int × List (ByteArray × Int) :=
  match og with
  | none => (1, [])
  | some gs => readRes gs s
theorem madeN_any (w : World) : Calls Tryd.prog 89 #[.pointer none] w fun e w' => e = .returned (.bool false) ∧ w = w' := by
  go_enter Tryd.func89, Tryd.ntmps89
  go_wp2
  go_ret
  exact ⟨rfl, rfl⟩
theorem wrongN_any (s : ByteArray) (w : World) : Calls Tryd.prog 69 #[.pointer none, .string s] w fun e w' => e = .returned (.int .i64 1) ∧ w = w' := by
  have hm := madeN_any w
  go_enter Tryd.func69, Tryd.ntmps69
  go_wp2_with (go_at_call 89; refine hm.mono ?_; rintro e w' ⟨rfl, rfl⟩)
  go_ret
  exact ⟨rfl, rfl⟩
theorem keyN_any (s : ByteArray) (w : World) : Calls Tryd.prog 46 #[.pointer none, .string s] w (KeyPost w (1, [])) := by
  have hw := fun W => wrongN_any s W
  have HW := Lib.hid hw; clear hw
  go_enter Tryd.func46, Tryd.ntmps46
  go_wp2_with (go_at_call 69; refine (HW.out _).mono ?_; rintro e w' ⟨rfl, rfl⟩)
  exact bodyPost_ret (v := .tuple #[.slice none 0 0, .int .i64 1]) (by simp [results, Tryd.results46, go_sem]) rfl ⟨_, rfl, World.ownsRow_nil _ _ _ _, ((Below.refl _ w).alloc (Nat.le_refl _) _).alloc (by simp) _⟩
def SmallO : Option (List (List ByteArray)) → Prop
  | none => True
  | some gs => SmallG gs
theorem keyO_any (p : Option Addr) (og : Option (List (List ByteArray))) (s : ByteArray) (w : World) (h : AlphO w p og) : Calls Tryd.prog 46 #[.pointer p, .string s] w (KeyPost w (readResO og s)) := by
  cases og with
  | none => obtain rfl : p = none := h; exact keyN_any s w
  | some gs => obtain ⟨g, rfl, h1, h2⟩ := h; exact key_prg g gs s w h1 h2
theorem groupsO_small {ss : List ByteArray} (hn : ss.length ≤ 1000) (ht : totalS ss ≤ 3000) : SmallO (groupsO ss) := by
  unfold groupsO
  split
  · refine ⟨by simp [groupsB]; omega, fun l hl => ?_, fun l hl x hx => ?_⟩
    · obtain ⟨s, hs, rfl⟩ := List.mem_map.1 hl
      have := piecesB_le s; have := totalS_mem hs; omega
    · obtain ⟨s, hs, rfl⟩ := List.mem_map.1 hl
      have := piecesB_size hx; have := totalS_mem hs; omega
  · trivial
end Go.Proofs.YtgkpoopiamicnaaDoor
