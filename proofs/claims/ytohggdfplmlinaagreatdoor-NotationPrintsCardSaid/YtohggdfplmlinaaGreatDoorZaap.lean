/-
  layer 4: the reference's notations: valid, Marks; the statements' cases made by the reference. Conditions: a notation in memory, a case that can be read. (Printed by rmade.py.)
-/
import Derived.Test.YtohggdfplmlinaaGreatDoorZaNtD6
import Derived.Test.YtohggdfplmlinaaGreatDoorZaNtD4
import Derived.Test.YtohggdfplmlinaaGreatDoorZaal
import Derived.Test.YtohggdfplmlinaaGreatDoorZaao
import Derived.Test.YtohggdfplmlinaaGreatDoorZaah
import Derived.Test.YtohggdfplmlinaaGreatDoorZaaj
import Derived.Test.YtohggdfplmlinaaGreatDoorZaac
namespace Go.Proofs.YtohggdfplmlinaaGreatDoor
open Go.RowKit Go.Lib

section
variable {w w' : World} {S T : Nat → Prop} {g : Nat} {fs : List ByteArray} {L : List Nam} {ms : List Mk}
theorem RNot.mono (h : RNot w S g fs L ms) (hs : ∀ b, S b → T b) : RNot w T g fs L ms := by
  obtain ⟨gi, A, c, ⟨h1, h2⟩, h3, ⟨h4, h5⟩, h6⟩ := h
  exact ⟨gi, A, c, ⟨h1, hs _ h2⟩, h3.mono hs, ⟨h4, fun b hb => hs _ (h5 b hb)⟩, h6⟩
theorem RNot.chg (h : RNot w S g fs L ms) (hc : ChgS T w w') (ht : ∀ b, S b → ¬ T b) : RNot w' S g fs L ms := by
  obtain ⟨gi, A, c, ⟨h1, h2⟩, h3, ⟨h4, h5⟩, h6⟩ := h
  exact ⟨gi, A, c, ⟨h1.chgS hc (ht _ h2), h2⟩, h3.chg hc ht, ⟨own_chgS h4 hc (fun k hk => ht _ (h5 k hk)), h5⟩, h6⟩
theorem RNot.below (h : RNot w S g fs L ms) (hb : Below w.heap.size w w') : RNot w' S g fs L ms := h.chg (T := fun _ => False) (.of_below hb) (fun _ _ h => h)
theorem rnvalid_any (h : RNot w S g fs L ms) : Calls Tryz.prog 37 #[wptr g] w fun e w' => e = .returned (.bool true) ∧ w = w' := by
  obtain ⟨gi, A, c, ⟨h1, -⟩, -⟩ := h
  have c0 := h1.cell 0
  simp only [List.getElem?_toArray, List.getElem?_cons_zero] at c0
  clear h1
  go_enter Tryz.func37, Tryz.ntmps37
  go_wp2
  go_ret
  exact ⟨rfl, rfl⟩
theorem rnvalid_nil : Calls Tryz.prog 37 #[.pointer none] w fun e w' => e = .returned (.bool false) ∧ w = w' := by
  go_enter Tryz.func37, Tryz.ntmps37
  go_wp2
  go_ret
  exact ⟨rfl, rfl⟩
end
def RMadePost (w : World) (fs : List ByteArray) (xs : List Nam) (ms : List Mk) (e : Ending) (w' : World) : Prop :=
  Below w.heap.size w w' ∧ ((caseE fs ms = 0 ∧ ∃ g, e = .returned (.tuple #[wptr g, .int .i64 0]) ∧ RNot w' (NewB w w') g fs (addsL fs.length [] xs) ms) ∨ (caseE fs ms ≠ 0 ∧ e = .returned (.tuple #[.pointer none, .int .i64 (caseE fs ms)])))
set_option linter.unusedSimpArgs false in
set_option maxRecDepth 20000 in
set_option maxHeartbeats 2000000 in
theorem rmade_c {w : World} {B : Nat} {A1 A2 A3 : Option Addr} {n1 c1 n2 c2 n3 c3 : Nat} {fs : List ByteArray} {xs : List Nam} {ms : List Mk} (h : CaseM w B A1 A2 A3 n1 c1 n2 c2 n3 c3 fs xs ms) :
    Calls Tryz.prog 9 #[caseV A1 A2 A3 n1 c1 n2 c2 n3 c3] w (RMadePost w fs xs ms) := by
  have hB := h.hB
  have hxl := h.r2.len_of (fun _ => rfl) (by decide)
  subst hxl
  have hlx := h.l2
  unfold maxLen at hlx
  obtain ⟨W1, hW1⟩ : ∃ W1, w.alloc (.cells #[.slice A1 n1 c1, .slice A2 xs.length c2, .slice A3 n3 c3] 26) = W1 := ⟨_, rfl⟩
  have hz : W1.heap.size = w.heap.size + 1 := by rw [← hW1]; simp
  have hb1 : Below w.heap.size w W1 := by rw [← hW1]; exact (Below.refl _ _).alloc (Nat.le_refl _) _
  have kb : Blk W1 w.heap.size 26 #[.slice A1 n1 c1, .slice A2 xs.length c2, .slice A3 n3 c3] := by rw [← hW1]; exact Blk.new w _ _
  have hC := h.below (hb1.mono hB)
  have hI := rnew_any A1 n1 c1 B fs W1 hC.r1 hC.hB hC.l1 hC.s1
  have k0 := kb.cell 0
  simp only [List.getElem?_toArray, List.getElem?_cons_zero] at k0
  have HI := Lib.hid hI; have HC := Lib.hid hC; have KB := Lib.hid kb; have HB1 := Lib.hid hb1
  clear hI hC h kb hb1
  go_enter Tryz.func9, Tryz.ntmps9
  go_wp2_with (rw [hW1])
  refine HI.out.mono ?_
  rintro e w2 ⟨hb2, ⟨hE, gi, rfl, hi⟩ | ⟨hE, rfl⟩⟩
  · have hi' := hi.mono (T := fun b => w.heap.size + 1 ≤ b ∧ b < w2.heap.size) (fun b hb => ⟨by have := hb.1; omega, hb.2⟩)
    have HI2 := Lib.hid hi'; have HB2 := Lib.hid hb2; have HE := Lib.hid hE
    clear hi hi' hb2 hE k0 hW1
    go_wp2
    go_loopw [6] (fun i wr => ∃ k : Nat, k ≤ xs.length ∧ i = .int .i64 k ∧ RInv wr (fun b => w.heap.size + 1 ≤ b ∧ b < wr.heap.size) gi fs (addsL fs.length [] (xs.take k)) ∧ Below W1.heap.size W1 wr) (fun i _ => xs.length - (RowKit.intOf i).toNat)
    case atStart => exact ⟨0, by omega, rfl, HI2.out, HB2.out⟩
    case round =>
      obtain ⟨k, hk, rfl, hi, hb⟩ := hrel
      have hbl := KB.out.lt
      have kb := KB.out.below hb hbl
      have k1 := kb.cell 1; have k2 := kb.cell 2
      simp only [List.getElem?_toArray, List.getElem?_cons_zero, List.getElem?_cons_succ] at k1 k2
      have hC := HC.out.below (hb.mono HC.out.hB)
      have hsz := hb.size
      by_cases hlt : k < xs.length
      · have hkI : (k : Int) < (xs.length : Int) := by omega
        obtain ⟨ad, rfl, had, e0, e1, e2⟩ := nam_cells hC.r2 hlt
        have hnx := addsL_next (n := fs.length) (L := []) hlt
        obtain ⟨h32, hsy⟩ := hC.s2 _ (List.getElem_mem hlt)
        generalize xs[k] = x at *
        have hadd := radd_any (w := wr.drew) x.1 x.2 (show RInv wr.drew (fun b => w.heap.size + 1 ≤ b ∧ b < wr.heap.size) gi fs _ from hi) (fun b hb => hb.2) h32 hsy
        have HADD := Lib.hid hadd; have HB := Lib.hid hb; have HNX := Lib.hid hnx
        clear kb hC hi hb hadd hnx h32 hsy
        go_wp2
        refine region_tail 13 (by kernel_rfl) (by kernel_rfl) ?_
        simp only [List.take_succ_cons, List.take_zero, List.drop_succ_cons, List.drop_zero]
        iterate 13 still_step
        refine wpStill_nil ?_
        go_wp2_with fail
        refine HADD.out.mono ?_
        rintro e w3 ⟨rfl, hi3, hc3⟩
        have hs3 : wr.heap.size ≤ w3.heap.size := hc3.size
        have hb3 : Below W1.heap.size W1 w3 := HB.out.drew.trans (hc3.below (B := W1.heap.size) (fun i hi => by have := hi.1; omega) hsz)
        rw [← HNX.out] at hi3
        have hi3' := hi3.mono (T := fun b => w.heap.size + 1 ≤ b ∧ b < w3.heap.size) (fun b hb => by
          rcases hb with hb | hb
          · exact ⟨hb.1, by have := hb.2; omega⟩
          · exact ⟨by have : wr.heap.size ≤ b := hb.1; omega, hb.2⟩)
        have HI3 := Lib.hid hi3'; have HB3 := Lib.hid hb3
        clear hi3 hc3 hb3 hi3' HADD HB HNX e0 e1 e2 k1 k2
        go_wp2
        go_roundw
        case rel => exact ⟨k + 1, by omega, by go_num, HI3.out, HB3.out⟩
        case measure => simp [RowKit.intOf]; omega
      · obtain rfl : k = xs.length := by omega
        rw [List.take_length] at hi
        have hnew := rnewN_any A3 n3 c3 B ms hi hC.r3 hC.hB hC.l3 hC.s3
        have HN := Lib.hid hnew; have HB := Lib.hid hb
        clear kb hC hi hb hnew
        go_wp2_with fail
        refine HN.out.mono ?_
        rintro e w3 ⟨hb3, ⟨hK, g, rfl, hn⟩ | ⟨hK, rfl⟩⟩
        · have hfin : RMadePost w fs xs ms (.returned (.tuple #[wptr g, .int .i64 0])) w3 := by
            have hb03 := HB1.out.trans ((HB.out.trans (hb3.mono HB.out.size)).mono HB1.out.size)
            refine ⟨hb03, .inl ⟨?_, g, rfl, hn.mono (fun b hb => ⟨by have := hb.1; omega, hb.2⟩)⟩⟩
            unfold caseE
            rw [if_pos HE.out]; exact hK
          have HFIN := Lib.hid hfin
          clear hfin hn hb3 hK
          go_wp2
          go_ret2
          exact HFIN.out
        · have hfin : RMadePost w fs xs ms (.returned (.tuple #[.pointer none, .int .i64 (notK fs.length ms)])) w3 := by
            have hb03 := HB1.out.trans ((HB.out.trans (hb3.mono HB.out.size)).mono HB1.out.size)
            have hce : caseE fs ms = notK fs.length ms := by unfold caseE; rw [if_pos HE.out]
            exact ⟨hb03, .inr ⟨by rw [hce]; exact hK, by rw [hce]⟩⟩
          have HFIN := Lib.hid hfin
          clear hfin hb3 hK
          go_wp2
          go_ret2
          exact HFIN.out
  · have e1 : (newE fs != 0) = true := by rw [bne_iff_ne]; exact hE
    have hfin : RMadePost w fs xs ms (.returned (.tuple #[.pointer none, .int .i64 (newE fs)])) w2 := by
      have hce : caseE fs ms = newE fs := by unfold caseE; rw [if_neg hE]
      exact ⟨HB1.out.trans (hb2.mono HB1.out.size), .inr ⟨by rw [hce]; exact hE, by rw [hce]⟩⟩
    have HFIN := Lib.hid hfin
    clear hfin hb2 hE
    go_wp2
    go_ret2
    exact HFIN.out
end Go.Proofs.YtohggdfplmlinaaGreatDoor
namespace Go.Proofs.YtohggdfplmlinaaGreatDoor
open Go.RowKit Go.Lib

/-- The index of a mark that was found, or -1. -/
def MarkI (ms : List Mk) (b : Option Mk) (k : Nat) (i : Int) : Prop := (b = none ∧ i = -1) ∨ ∃ (q : Nat) (m : Mk), i = q ∧ q < k ∧ ms[q]? = some m ∧ b = some m
theorem MarkI.more {ms : List Mk} {b : Option Mk} {k : Nat} {i : Int} (h : MarkI ms b k i) : MarkI ms b (k + 1) i := by
  rcases h with h | ⟨q, m, h1, h2, h3⟩
  · exact .inl h
  · exact .inr ⟨q, m, h1, by omega, h3⟩
theorem RNot.marks {w : World} {S : Nat → Prop} {g : Nat} {fs : List ByteArray} {L : List Nam} {ms : List Mk} (h : RNot w S g fs L ms) : ∀ m ∈ ms, 0 < m.text.size ∧ okMk m := by
  obtain ⟨_, _, _, -, -, -, h1, h2⟩ := h
  intro m hm
  refine ⟨?_, h1 m hm⟩
  unfold notK at h2
  split at h2
  · exact absurd h2 (by decide)
  · have := notE_ok ms [] h2 m hm
    unfold okMark consC at this
    simp only [Bool.and_eq_true, decide_eq_true_eq] at this
    omega
set_option linter.unusedSimpArgs false in
set_option maxRecDepth 20000 in
set_option maxHeartbeats 4000000 in
theorem rmark_any {w : World} {S : Nat → Prop} {g : Nat} {fs : List ByteArray} {L : List Nam} {ms : List Mk} (s : ByteArray) (h : RNot w S g fs L ms) :
    Calls Tryz.prog 75 #[wptr g, .string s] w fun e w' => (∃ i : Int, e = .returned (.int .i64 i) ∧ MarkI ms (markAt ms (bs s)) ms.length i) ∧ Below w.heap.size w w' := by
  have hpos := h.marks
  obtain ⟨gi, A, c, ⟨h1, -⟩, -, ⟨h3, -⟩, -, hnk⟩ := h
  have h32 : ms.length ≤ 32 := by
    unfold notK at hnk
    split at hnk
    · exact absurd hnk (by decide)
    · omega
  have HR := Lib.hid (Reads.of_own h3); have HG := Lib.hid h1; have HP := Lib.hid hpos
  have hgl := h1.lt
  clear hpos h1 h3 hnk
  go_enter Tryz.func75, Tryz.ntmps75
  go_wp2
  go_loopw [5, 6] (fun b i wr => ∃ (k : Nat) (j : Int), k ≤ ms.length ∧ i = .int .i64 k ∧ b = .int .i64 j ∧ MarkI ms ((ms.take k).foldl (markS (bs s)) none) k j ∧ Below w.heap.size w wr) (fun _ i _ => ms.length - (RowKit.intOf i).toNat)
  case atStart => exact ⟨0, -1, by omega, rfl, rfl, .inl ⟨rfl, rfl⟩, Below.refl _ _⟩
  case round =>
    obtain ⟨k, j, hk, rfl, rfl, hmi, hbw⟩ := hrel
    have hg := HG.out.below hbw hgl
    have g2 := hg.cell 2
    simp only [List.getElem?_toArray, List.getElem?_cons_zero, List.getElem?_cons_succ] at g2
    have HBW := Lib.hid hbw
    clear hg hbw
    by_cases hlt : k < ms.length
    · have hkI : (k : Int) < (ms.length : Int) := by omega
      have hk0 : (0 : Int) ≤ (k : Int) := by omega
      obtain ⟨ad, rfl, had, e0, -, -, -⟩ := mark_cells (HR.out.below HBW.out) hlt
      have hnx := fold_next (t := bs s) hlt
      have hget : ms[k]? = some ms[k] := List.getElem?_eq_getElem hlt
      have hy0 := (HP.out _ (List.getElem_mem hlt)).1
      generalize (ms.take k).foldl (markS (bs s)) none = b at *
      have hst : markS (bs s) b ms[k] = if ((bs ms[k].text).isPrefixOf (bs s) && decide (mkLen b < ms[k].text.size)) = true then some ms[k] else b := rfl
      rw [hst] at hnx
      generalize ms[k] = y at *
      have hbg : ∀ n, Calls Tryz.prog 96 #[.string s, .string y.text] (wr.drewN n) fun e w' => e = .returned (.bool ((bs y.text).isPrefixOf (bs s))) ∧ ∃ m, w' = wr.drewN m := fun n => (begins_any s y.text (wr.drewN n)).mono (by
        rintro e w' ⟨rfl, rfl⟩
        exact ⟨rfl, n, rfl⟩)
      generalize (bs y.text).isPrefixOf (bs s) = p at *
      have HBG := Lib.hid hbg
      clear hst hbg
      cases p with
      | false =>
        simp only [Bool.false_and, Bool.false_eq_true, if_false] at hnx
        have HM := Lib.hid (show MarkI ms ((ms.take (k + 1)).foldl (markS (bs s)) none) (k + 1) j by rw [hnx]; exact hmi.more)
        clear hnx hmi hget
        go_wp2
        go_quiet ((go_at_call 96; exact HBG.out _))
        go_wp2
        go_roundw
        case rel => exact ⟨k + 1, j, by omega, by go_num, rfl, HM.out, bdrewN HBW.out _⟩
        case measure => simp [RowKit.intOf]; omega
      | true =>
        rcases hmi with ⟨rfl, rfl⟩ | ⟨q, m, rfl, hqk, hqm, rfl⟩
        · have e : (true && decide (mkLen none < y.text.size)) = true := by rw [Bool.true_and]; exact decide_eq_true hy0
          rw [if_pos e] at hnx
          have HM := Lib.hid (show MarkI ms ((ms.take (k + 1)).foldl (markS (bs s)) none) (k + 1) (k : Int) by rw [hnx]; exact .inr ⟨k, y, rfl, by omega, hget, rfl⟩)
          clear hnx hget e
          go_wp2
          go_quiet ((go_at_call 96; exact HBG.out _))
          go_wp2
          go_roundw
          case rel => exact ⟨k + 1, k, by omega, by go_num, rfl, HM.out, bdrewN HBW.out _⟩
          case measure => simp [RowKit.intOf]; omega
        · have hq0 : ¬ (q : Int) < 0 := by omega
          have hq0' : (0 : Int) ≤ (q : Int) := by omega
          have hqI : (q : Int) < (ms.length : Int) := by omega
          obtain ⟨ad2, e2, -, d0, -, -, -⟩ := mark_cells (i := q) (HR.out.below HBW.out) (by omega)
          obtain rfl := Option.some.inj e2
          have hqe : ms[q]? = some ms[q] := List.getElem?_eq_getElem (by omega)
          have hqm' : ms[q] = m := Option.some.inj (hqe.symm.trans hqm)
          rw [hqm'] at d0
          have hlen : mkLen (some m) = m.text.size := rfl
          rw [hlen] at hnx
          by_cases hl : m.text.size < y.text.size
          · have hlI : (m.text.size : Int) < (y.text.size : Int) := by omega
            rw [if_pos (by rw [Bool.true_and]; exact decide_eq_true hl)] at hnx
            have HM := Lib.hid (show MarkI ms ((ms.take (k + 1)).foldl (markS (bs s)) none) (k + 1) (k : Int) by rw [hnx]; exact .inr ⟨k, y, rfl, by omega, hget, rfl⟩)
            clear hnx hget hqe hqm hqm' hl
            go_wp2
            go_quiet ((go_at_call 96; exact HBG.out _))
            go_wp2
            go_roundw
            case rel => exact ⟨k + 1, k, by omega, by go_num, rfl, HM.out, bdrewN HBW.out _⟩
            case measure => simp [RowKit.intOf]; omega
          · have hlI : ¬ (m.text.size : Int) < (y.text.size : Int) := by omega
            rw [if_neg (by rw [Bool.true_and]; exact fun h => hl (of_decide_eq_true h))] at hnx
            have HM := Lib.hid (show MarkI ms ((ms.take (k + 1)).foldl (markS (bs s)) none) (k + 1) (q : Int) by rw [hnx]; exact .inr ⟨q, m, rfl, by omega, hqm, rfl⟩)
            clear hnx hget hqe hqm hqm' hl
            go_wp2
            go_quiet ((go_at_call 96; exact HBG.out _))
            go_wp2
            go_roundw
            case rel => exact ⟨k + 1, q, by omega, by go_num, rfl, HM.out, bdrewN HBW.out _⟩
            case measure => simp [RowKit.intOf]; omega
    · obtain rfl : k = ms.length := by omega
      rw [List.take_length] at hmi
      have hm : ms.foldl (markS (bs s)) none = markAt ms (bs s) := rfl
      rw [hm] at hmi
      have HM := Lib.hid hmi
      clear hmi hm
      go_wp2
      go_ret
      exact ⟨⟨j, rfl, HM.out⟩, HBW.out⟩
end Go.Proofs.YtohggdfplmlinaaGreatDoor
namespace Go.Proofs.YtohggdfplmlinaaGreatDoor
open Go.RowKit Go.Lib

section
variable {w : World} {S : Nat → Prop} {g : Nat} {fs : List ByteArray} {L : List Nam} {ms : List Mk} {R : Rs}
set_option maxRecDepth 20000 in
theorem rparse_any (s : ByteArray) (h : RNot w S g fs L ms) (hrd : Calls Tryz.prog 44 #[wptr g, .string s] w (ReadPost w R)) :
    Calls Tryz.prog 15 #[wptr g, .string s] w (ParsePost w R) := by
  have HV := Lib.hid (rnvalid_any h)
  have HR := Lib.hid hrd
  clear hrd h
  go_enter Tryz.func15, Tryz.ntmps15
  go_wp2_with fail
  refine HV.out.mono ?_
  rintro e w1 ⟨rfl, rfl⟩
  go_wp2_with fail
  refine HR.out.mono ?_
  rintro e w1 ⟨vw, vt, rfl, h1, h2, h3⟩
  obtain ⟨A, c, rfl, -, -⟩ := ownsRow_form h1
  obtain ⟨A', c', rfl, -, -⟩ := ownsRow_form h2
  have H1 := Lib.hid h1; have H3 := Lib.hid h3
  clear h1 h2 h3
  go_wp2
  go_ret3
  exact ⟨_, rfl, H1.out, H3.out⟩
set_option maxRecDepth 20000 in
theorem rsplit_any (s : ByteArray) (h : RNot w S g fs L ms) (hrd : Calls Tryz.prog 44 #[wptr g, .string s] w (ReadPost w R)) :
    Calls Tryz.prog 17 #[wptr g, .string s] w (SplitPost w R) := by
  have HV := Lib.hid (rnvalid_any h)
  have HR := Lib.hid hrd
  clear hrd h
  go_enter Tryz.func17, Tryz.ntmps17
  go_wp2_with fail
  refine HV.out.mono ?_
  rintro e w1 ⟨rfl, rfl⟩
  go_wp2_with fail
  refine HR.out.mono ?_
  rintro e w1 ⟨vw, vt, rfl, h1, h2, h3⟩
  obtain ⟨A, c, rfl, -, -⟩ := ownsRow_form h1
  obtain ⟨A', c', rfl, -, -⟩ := ownsRow_form h2
  have H2 := Lib.hid h2; have H3 := Lib.hid h3
  clear h1 h2 h3
  go_wp2
  go_ret3
  exact ⟨_, rfl, H2.out, H3.out⟩
end
end Go.Proofs.YtohggdfplmlinaaGreatDoor
namespace Go.Proofs.YtohggdfplmlinaaGreatDoor

/-- What a loop over a text knows at place i: what was read so far. -/
structure RdI (L : List Nam) (ms : List Mk) (t : List UInt8) (i : Nat) (ws : List Snd) (ts : List (List UInt8)) : Prop where
  le : i ≤ t.length
  here : ∃ f, (t.drop i).length < f ∧ readR L ms t = readL (unitsK L ms f i (t.drop i)) ws ts
  pos : 0 < i ↔ 0 < ws.length
  len : ws.length = ts.length
  most : ws.length ≤ 32
theorem rdI_start (L : List Nam) (ms : List Mk) (t : List UInt8) : RdI L ms t 0 [] [] :=
  ⟨Nat.zero_le _, ⟨t.length + 1, by simp, by rw [List.drop_zero]; rfl⟩, by simp, rfl, by simp⟩
section
variable {L : List Nam} {ms : List Mk} {t : List UInt8} {i : Nat} {ws : List Snd} {ts : List (List UInt8)}
theorem RdI.at_end (h : RdI L ms t i ws ts) (hi : ¬ i < t.length) : readR L ms t = ⟨ws, ts, 0, 0⟩ := by
  obtain ⟨f, hf, e⟩ := h.here
  rw [e, List.drop_of_length_le (by omega)]
  cases f with
  | zero => rfl
  | succ f => rfl
theorem RdI.form (h : RdI L ms t i ws ts) (hi : i < t.length) (hn : longN L (t.drop (i + skipD i (t.drop i))) = 0) : readR L ms t = ⟨[], [], i + skipD i (t.drop i), 10⟩ := by
  obtain ⟨f, hf, e⟩ := h.here
  rw [e]
  cases f with
  | zero => omega
  | succ f =>
    have hne : t.drop i ≠ [] := fun h => by have := congrArg List.length h; rw [List.length_drop] at this; simp at this; omega
    have hu : unitR L ms ((t.drop i).drop (skipD i (t.drop i))) = none := by unfold unitR; rw [List.drop_drop, if_pos hn]
    unfold unitsK
    rw [if_neg hne, hu]; rfl
theorem RdI.step (h : RdI L ms t i ws ts) (hi : i < t.length) (x : Snd) (m : Nat) (hu : unitR L ms (t.drop (i + skipD i (t.drop i))) = some (x, m)) (hm : 0 < m) (hml : i + skipD i (t.drop i) + m ≤ t.length) :
    (ws.length = 32 → readR L ms t = ⟨[], [], i + skipD i (t.drop i), 11⟩) ∧ (ws.length ≠ 32 → RdI L ms t (i + skipD i (t.drop i) + m) (ws ++ [x]) (ts ++ [(t.drop (i + skipD i (t.drop i))).take m])) := by
  obtain ⟨f, hf, e⟩ := h.here
  cases f with
  | zero => omega
  | succ f =>
    have hne : t.drop i ≠ [] := fun h => by have := congrArg List.length h; rw [List.length_drop] at this; simp at this; omega
    have hu' : unitR L ms ((t.drop i).drop (skipD i (t.drop i))) = some (x, m) := by rw [List.drop_drop]; exact hu
    have htx : ((t.drop i).drop (skipD i (t.drop i))).take m ≠ [] := fun h => by
      have := congrArg List.length h
      rw [List.length_take, List.length_drop, List.length_drop] at this
      simp at this
      omega
    have e2 : readR L ms t = if ws.length = 32 then ⟨[], [], i + skipD i (t.drop i), 11⟩ else readL (unitsK L ms f (i + skipD i (t.drop i) + m) ((t.drop i).drop (skipD i (t.drop i) + m))) (ws ++ [x]) (ts ++ [((t.drop i).drop (skipD i (t.drop i))).take m]) := by
      rw [e]
      conv => lhs; unfold unitsK
      rw [if_neg hne, hu']
      show (if _ = [] then _ else _) = _
      rw [if_neg htx]
    refine ⟨fun h32 => by rw [e2, if_pos h32], fun h32 => ?_⟩
    rw [if_neg h32] at e2
    rw [List.drop_drop, List.drop_drop, ← Nat.add_assoc] at e2
    refine ⟨hml, ⟨f, ?_, e2⟩, by simp; omega, by simp [h.len], ?_⟩
    · rw [List.length_drop] at hf ⊢
      omega
    · have := h.most
      rw [List.length_append]; simp; omega
end
end Go.Proofs.YtohggdfplmlinaaGreatDoor
