/-
  layer 4: the statements' cases: small, made. Conditions: a case that can be read.
-/
import Derived.Test.YtohggdfplmlinaaDoorNtY
namespace Go.Proofs.YtohggdfplmlinaaDoor
open Go.RowKit Go.Lib

/-- A case as a value. -/
abbrev caseV (A1 A2 A3 : Option Addr) (n1 c1 n2 c2 n3 c3 : Nat) : Value := .agg #[.slice A1 n1 c1, .slice A2 n2 c2, .slice A3 n3 c3]
def smallK (a b c : Nat) : Bool := decide (a ≤ 30 ∧ b ≤ 20 ∧ c ≤ 33 ∧ (c ≤ 8 ∨ b ≤ 2))
set_option maxRecDepth 20000 in
set_option maxHeartbeats 1000000 in
theorem small_c (A1 A2 A3 : Option Addr) (n1 c1 n2 c2 n3 c3 : Nat) (w : World) : Calls Tryd.prog 10 #[caseV A1 A2 A3 n1 c1 n2 c2 n3 c3] w fun e w' => e = .returned (.bool (smallK n1 n2 n3)) ∧ Below w.heap.size w w' := by
  obtain ⟨r, hr⟩ : ∃ r, smallK n1 n2 n3 = r := ⟨_, rfl⟩
  rw [hr]
  have HR := Lib.hid hr
  clear hr
  have hb : Below w.heap.size w (w.alloc (.cells #[.slice A1 n1 c1, .slice A2 n2 c2, .slice A3 n3 c3] 26)) := (Below.refl _ _).alloc (Nat.le_refl _) _
  have HB := Lib.hid hb
  clear hb
  go_enter Tryd.func10, Tryd.ntmps10
  go_wp2
  all_goals
    go_ret
    refine ⟨?_, HB.out⟩
    rw [← HR.out]
    unfold smallK
    simp
    try (first | omega | (rw [Bool.eq_iff_iff]; simp only [Bool.or_eq_true, Bool.and_eq_true, decide_eq_true_eq]; omega))
/-- A case that can be read, in blocks below B. -/
structure CaseM (w : World) (B : Nat) (A1 A2 A3 : Option Addr) (n1 c1 n2 c2 n3 c3 : Nat) (fs : List ByteArray) (xs : List Nam) (ms : List Mk) : Prop where
  hB : B ≤ w.heap.size
  r1 : ReadS w B A1 n1 fs
  r2 : Reads w B 3 A2 n2 (xs.flatMap namC)
  r3 : Reads w B 4 A3 n3 (ms.flatMap markC)
  l1 : n1 ≤ c1
  l2 : n2 ≤ c2 ∧ c2 ≤ maxLen
  l3 : n3 ≤ c3
  s1 : ∀ s ∈ fs, s.size ≤ maxLen
  s2 : ∀ x ∈ xs, ok32 x.2 ∧ x.1.size ≤ maxLen
  s3 : ∀ m ∈ ms, okMk m
theorem CaseM.below {w w' : World} {B : Nat} {A1 A2 A3 : Option Addr} {n1 c1 n2 c2 n3 c3 : Nat} {fs : List ByteArray} {xs : List Nam} {ms : List Mk} (h : CaseM w B A1 A2 A3 n1 c1 n2 c2 n3 c3 fs xs ms) (hb : Below B w w') : CaseM w' B A1 A2 A3 n1 c1 n2 c2 n3 c3 fs xs ms :=
  ⟨Nat.le_trans h.hB hb.size, Reads.below h.r1 hb, h.r2.below hb, h.r3.below hb, h.l1, h.l2, h.l3, h.s1, h.s2, h.s3⟩
def MadePost (w : World) (fs : List ByteArray) (xs : List Nam) (ms : List Mk) (e : Ending) (w' : World) : Prop :=
  Below w.heap.size w w' ∧ ((caseE fs ms = 0 ∧ ∃ g, e = .returned (.tuple #[wptr g, .int .i64 0]) ∧ NotN w' (NewB w w') g fs (addsL fs.length [] xs) ms 0) ∨ (caseE fs ms ≠ 0 ∧ e = .returned (.tuple #[.pointer none, .int .i64 (caseE fs ms)])))
theorem addsL_next {n : Nat} {L xs : List Nam} {k : Nat} (hk : k < xs.length) : addsL n L (xs.take (k + 1)) = addL n (addsL n L (xs.take k)) xs[k] := by
  unfold addsL
  rw [List.take_succ_eq_append_getElem hk, List.foldl_append]; rfl
set_option linter.unusedSimpArgs false in
set_option maxRecDepth 20000 in
set_option maxHeartbeats 2000000 in
theorem made_c {w : World} {B : Nat} {A1 A2 A3 : Option Addr} {n1 c1 n2 c2 n3 c3 : Nat} {fs : List ByteArray} {xs : List Nam} {ms : List Mk} (h : CaseM w B A1 A2 A3 n1 c1 n2 c2 n3 c3 fs xs ms) :
    Calls Tryd.prog 9 #[caseV A1 A2 A3 n1 c1 n2 c2 n3 c3] w (MadePost w fs xs ms) := by
  have hB := h.hB
  have hxl := h.r2.len_of (fun _ => rfl) (by decide)
  subst hxl
  have hlx := h.l2
  unfold maxLen at hlx
  obtain ⟨W1, hW1⟩ : ∃ W1, w.alloc (.cells #[.slice A1 n1 c1, .slice A2 xs.length c2, .slice A3 n3 c3] 26) = W1 := ⟨_, rfl⟩
  have hz : W1.heap.size = w.heap.size + 1 := by rw [← hW1]; simp
  have hb1 : Below w.heap.size w W1 := by rw [← hW1]; exact (Below.refl _ _).alloc (Nat.le_refl _) _
  have kb : Blk W1 w.heap.size 26 #[.slice A1 n1 c1, .slice A2 xs.length c2, .slice A3 n3 c3] := by rw [← hW1]; exact Blk.new w _ _
  have hC := h.below (hb1.mono hB)
  have hI := newI_any A1 n1 c1 B fs W1 hC.r1 hC.hB hC.l1 hC.s1
  have k0 := kb.cell 0
  simp only [List.getElem?_toArray, List.getElem?_cons_zero] at k0
  have HI := Lib.hid hI; have HC := Lib.hid hC; have KB := Lib.hid kb; have HB1 := Lib.hid hb1
  clear hI hC h kb hb1
  go_enter Tryd.func9, Tryd.ntmps9
  go_wp2_with (rw [hW1])
  refine HI.out.mono ?_
  rintro e w2 ⟨hb2, ⟨hE, gi, rfl, hi⟩ | ⟨hE, rfl⟩⟩
  · have hi' := hi.mono (T := fun b => w.heap.size + 1 ≤ b ∧ b < w2.heap.size) (fun b hb => ⟨by have := hb.1; omega, hb.2⟩)
    have HI2 := Lib.hid hi'; have HB2 := Lib.hid hb2; have HE := Lib.hid hE
    clear hi hi' hb2 hE k0 hW1
    go_wp2
    go_loopw [6] (fun i wr => ∃ k : Nat, k ≤ xs.length ∧ i = .int .i64 k ∧ InvM wr (fun b => w.heap.size + 1 ≤ b ∧ b < wr.heap.size) gi fs (addsL fs.length [] (xs.take k)) ∧ Below W1.heap.size W1 wr) (fun i _ => xs.length - (RowKit.intOf i).toNat)
    case atStart => exact ⟨0, by omega, rfl, HI2.out, HB2.out⟩
    case round =>
      obtain ⟨k, hk, rfl, hi, hb⟩ := hrel
      have hbl := KB.out.lt
      have kb := KB.out.below hb hbl
      have k1 := kb.cell 1; have k2 := kb.cell 2
      simp only [List.getElem?_toArray, List.getElem?_cons_zero, List.getElem?_cons_succ] at k1 k2
      have hC := HC.out.below (hb.mono HC.out.hB)
      have hsz := hb.size
      by_cases hlt : k < xs.length
      · have hkI : (k : Int) < (xs.length : Int) := by omega
        obtain ⟨ad, rfl, had, e0, e1, e2⟩ := nam_cells hC.r2 hlt
        have hnx := addsL_next (n := fs.length) (L := []) hlt
        obtain ⟨h32, hsy⟩ := hC.s2 _ (List.getElem_mem hlt)
        generalize xs[k] = x at *
        have hadd := add_any (w := wr.drew) x.1 x.2 (show InvM wr.drew (fun b => w.heap.size + 1 ≤ b ∧ b < wr.heap.size) gi fs _ from hi) (fun b hb => hb.2) h32 hsy
        have HADD := Lib.hid hadd; have HB := Lib.hid hb; have HNX := Lib.hid hnx
        clear kb hC hi hb hadd hnx h32 hsy
        go_wp2
        refine region_tail 13 (by kernel_rfl) (by kernel_rfl) ?_
        simp only [List.take_succ_cons, List.take_zero, List.drop_succ_cons, List.drop_zero]
        iterate 13 still_step
        refine wpStill_nil ?_
        go_wp2_with fail
        refine HADD.out.mono ?_
        rintro e w3 ⟨rfl, hi3, hc3⟩
        have hs3 : wr.heap.size ≤ w3.heap.size := hc3.size
        have hb3 : Below W1.heap.size W1 w3 := HB.out.drew.trans (hc3.below (B := W1.heap.size) (fun i hi => by have := hi.1; omega) hsz)
        rw [← HNX.out] at hi3
        have hi3' := hi3.mono (T := fun b => w.heap.size + 1 ≤ b ∧ b < w3.heap.size) (fun b hb => by
          rcases hb with hb | hb
          · exact ⟨hb.1, by have := hb.2; omega⟩
          · exact ⟨by have : wr.heap.size ≤ b := hb.1; omega, hb.2⟩)
        have HI3 := Lib.hid hi3'; have HB3 := Lib.hid hb3
        clear hi3 hc3 hb3 hi3' HADD HB HNX e0 e1 e2 k1 k2
        go_wp2
        go_roundw
        case rel => exact ⟨k + 1, by omega, by go_num, HI3.out, HB3.out⟩
        case measure => simp [RowKit.intOf]; omega
      · obtain rfl : k = xs.length := by omega
        rw [List.take_length] at hi
        have hnew := newN_any A3 n3 c3 B ms hi hC.r3 hC.hB hC.l3 hC.s3
        have HN := Lib.hid hnew; have HB := Lib.hid hb
        clear kb hC hi hb hnew
        go_wp2_with fail
        refine HN.out.mono ?_
        rintro e w3 ⟨hb3, ⟨hK, g, rfl, hn⟩ | ⟨hK, rfl⟩⟩
        · have hfin : MadePost w fs xs ms (.returned (.tuple #[wptr g, .int .i64 0])) w3 := by
            have hb03 := HB1.out.trans ((HB.out.trans (hb3.mono HB.out.size)).mono HB1.out.size)
            refine ⟨hb03, .inl ⟨?_, g, rfl, hn.mono (fun b hb => ⟨by have := hb.1; omega, hb.2⟩)⟩⟩
            unfold caseE
            rw [if_pos HE.out]; exact hK
          have HFIN := Lib.hid hfin
          clear hfin hn hb3 hK
          go_wp2
          go_ret2
          exact HFIN.out
        · have hfin : MadePost w fs xs ms (.returned (.tuple #[.pointer none, .int .i64 (notK fs.length ms)])) w3 := by
            have hb03 := HB1.out.trans ((HB.out.trans (hb3.mono HB.out.size)).mono HB1.out.size)
            have hce : caseE fs ms = notK fs.length ms := by unfold caseE; rw [if_pos HE.out]
            exact ⟨hb03, .inr ⟨by rw [hce]; exact hK, by rw [hce]⟩⟩
          have HFIN := Lib.hid hfin
          clear hfin hb3 hK
          go_wp2
          go_ret2
          exact HFIN.out
  · have e1 : (newE fs != 0) = true := by rw [bne_iff_ne]; exact hE
    have hfin : MadePost w fs xs ms (.returned (.tuple #[.pointer none, .int .i64 (newE fs)])) w2 := by
      have hce : caseE fs ms = newE fs := by unfold caseE; rw [if_neg hE]
      exact ⟨HB1.out.trans (hb2.mono HB1.out.size), .inr ⟨by rw [hce]; exact hE, by rw [hce]⟩⟩
    have HFIN := Lib.hid hfin
    clear hfin hb2 hE
    go_wp2
    go_ret2
    exact HFIN.out
end Go.Proofs.YtohggdfplmlinaaDoor
