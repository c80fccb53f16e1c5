/-
  layer 4: the reference's notations: valid, Marks; the statements' cases made by the reference. Conditions: a notation in memory, a case that can be read. (Printed by rmade.py.)
-/
import Derived.Test.YtohggdfplmlinaaDoorNtD6
import Derived.Test.YtohggdfplmlinaaDoorNtD4
import Derived.Test.YtohggdfplmlinaaDoorNtZ
namespace Go.Proofs.YtohggdfplmlinaaDoor
open Go.RowKit Go.Lib

section
variable {w w' : World} {S T : Nat → Prop} {g : Nat} {fs : List ByteArray} {L : List Nam} {ms : List Mk}
theorem RNot.mono (h : RNot w S g fs L ms) (hs : ∀ b, S b → T b) : RNot w T g fs L ms := by
  obtain ⟨gi, A, c, ⟨h1, h2⟩, h3, ⟨h4, h5⟩, h6⟩ := h
  exact ⟨gi, A, c, ⟨h1, hs _ h2⟩, h3.mono hs, ⟨h4, fun b hb => hs _ (h5 b hb)⟩, h6⟩
theorem RNot.chg (h : RNot w S g fs L ms) (hc : ChgS T w w') (ht : ∀ b, S b → ¬ T b) : RNot w' S g fs L ms := by
  obtain ⟨gi, A, c, ⟨h1, h2⟩, h3, ⟨h4, h5⟩, h6⟩ := h
  exact ⟨gi, A, c, ⟨h1.chgS hc (ht _ h2), h2⟩, h3.chg hc ht, ⟨own_chgS h4 hc (fun k hk => ht _ (h5 k hk)), h5⟩, h6⟩
theorem RNot.below (h : RNot w S g fs L ms) (hb : Below w.heap.size w w') : RNot w' S g fs L ms := h.chg (T := fun _ => False) (.of_below hb) (fun _ _ h => h)
theorem rnvalid_any (h : RNot w S g fs L ms) : Calls Tryd.prog 50 #[wptr g] w fun e w' => e = .returned (.bool true) ∧ w = w' := by
  obtain ⟨gi, A, c, ⟨h1, -⟩, -⟩ := h
  have c0 := h1.cell 0
  simp only [List.getElem?_toArray, List.getElem?_cons_zero] at c0
  clear h1
  go_enter Tryd.func50, Tryd.ntmps50
  go_wp2
  go_ret
  exact ⟨rfl, rfl⟩
theorem rnvalid_nil : Calls Tryd.prog 50 #[.pointer none] w fun e w' => e = .returned (.bool false) ∧ w = w' := by
  go_enter Tryd.func50, Tryd.ntmps50
  go_wp2
  go_ret
  exact ⟨rfl, rfl⟩
set_option maxRecDepth 20000 in
set_option maxHeartbeats 1000000 in
theorem rmarks_any (h : RNot w S g fs L ms) : Calls Tryd.prog 22 #[wptr g] w fun e w' => ∃ v, e = .returned v ∧ w'.ownsRow w.heap.size 58 4 v ms.length (ms.flatMap markC) ∧ Below w.heap.size w w' := by
  obtain ⟨i0, hi, hz0, hz1, hz2⟩ := info_parts (show (Tryd.prog.info? 58).map (fun i => (i.zero, i.size, i.bytes)) = some (some (.agg #[.string ByteArray.empty, .int .u32 0, .int .u32 0, .int .u32 0]), 4, 32) by kernel_rfl)
  have hmd := rnvalid_any h
  obtain ⟨gi, A2, c2, ⟨h1, -⟩, -, ⟨h3, -⟩, -, hk⟩ := h
  have h32 : ms.length ≤ 32 := by
    unfold notK at hk
    split at hk
    · exact absurd hk (by decide)
    · omega
  have hg1 := (h1.alloc (.cells #[] 58)).cell 2
  simp only [List.getElem?_toArray, List.getElem?_cons_zero, List.getElem?_cons_succ] at hg1
  have hown := own_empty0 w 58 4
  have hr := (Reads.of_own h3).alloc (Nat.le_refl _) (.cells #[] 58)
  have HMD := Lib.hid hmd; have HR := Lib.hid hr; have HOWN := Lib.hid hown
  clear hmd h1 h3 hr hown hk
  go_enter Tryd.func22, Tryd.ntmps22
  go_wp2_with fail
  refine HMD.out.mono ?_
  rintro e w1 ⟨rfl, rfl⟩
  go_wp2_with (at_builtin; refine wpList_append_any _ rfl _ _ _ rfl w.heap.size 58 i0 (.agg #[.string ByteArray.empty, .int .u32 0, .int .u32 0, .int .u32 0]) 4 32 Tryd.underlying24 hi hz0 hz1 hz2 rfl (by decide) _ _ _ rfl HOWN.out w.heap.size _ _ _ (ms.flatMap markC) rfl HR.out (markC_one ms) (by unfold maxLen; omega) (by omega) (by simp) ?_; intro v' w1 hown' hgrow hx; have HB1 := Lib.hid (((Below.refl _ w).alloc (Nat.le_refl _) (.cells #[] 58)).grown hgrow (by simp) (fun g hg => (HOWN.out.lt g hg).1)); have HO := Lib.hid hown'; clear hgrow hx hown')
  go_ret
  exact ⟨_, rfl, by simpa using HO.out, HB1.out⟩
theorem rmarks_nil : Calls Tryd.prog 22 #[.pointer none] w fun e w' => e = .returned (.slice none 0 0) ∧ w = w' := by
  have HC := Lib.hid (rnvalid_nil (w := w))
  go_enter Tryd.func22, Tryd.ntmps22
  go_wp2_with fail
  refine HC.out.mono ?_
  rintro e w1 ⟨rfl, rfl⟩
  go_wp2
  go_ret
  exact ⟨rfl, rfl⟩
end
def RMadePost (w : World) (fs : List ByteArray) (xs : List Nam) (ms : List Mk) (e : Ending) (w' : World) : Prop :=
  Below w.heap.size w w' ∧ ((caseE fs ms = 0 ∧ ∃ g, e = .returned (.tuple #[wptr g, .int .i64 0]) ∧ RNot w' (NewB w w') g fs (addsL fs.length [] xs) ms) ∨ (caseE fs ms ≠ 0 ∧ e = .returned (.tuple #[.pointer none, .int .i64 (caseE fs ms)])))
set_option linter.unusedSimpArgs false in
set_option maxRecDepth 20000 in
set_option maxHeartbeats 2000000 in
theorem rmade_c {w : World} {B : Nat} {A1 A2 A3 : Option Addr} {n1 c1 n2 c2 n3 c3 : Nat} {fs : List ByteArray} {xs : List Nam} {ms : List Mk} (h : CaseM w B A1 A2 A3 n1 c1 n2 c2 n3 c3 fs xs ms) :
    Calls Tryd.prog 20 #[caseV A1 A2 A3 n1 c1 n2 c2 n3 c3] w (RMadePost w fs xs ms) := by
  have hB := h.hB
  have hxl := h.r2.len_of (fun _ => rfl) (by decide)
  subst hxl
  have hlx := h.l2
  unfold maxLen at hlx
  obtain ⟨W1, hW1⟩ : ∃ W1, w.alloc (.cells #[.slice A1 n1 c1, .slice A2 xs.length c2, .slice A3 n3 c3] 26) = W1 := ⟨_, rfl⟩
  have hz : W1.heap.size = w.heap.size + 1 := by rw [← hW1]; simp
  have hb1 : Below w.heap.size w W1 := by rw [← hW1]; exact (Below.refl _ _).alloc (Nat.le_refl _) _
  have kb : Blk W1 w.heap.size 26 #[.slice A1 n1 c1, .slice A2 xs.length c2, .slice A3 n3 c3] := by rw [← hW1]; exact Blk.new w _ _
  have hC := h.below (hb1.mono hB)
  have hI := rnew_any A1 n1 c1 B fs W1 hC.r1 hC.hB hC.l1 hC.s1
  have k0 := kb.cell 0
  simp only [List.getElem?_toArray, List.getElem?_cons_zero] at k0
  have HI := Lib.hid hI; have HC := Lib.hid hC; have KB := Lib.hid kb; have HB1 := Lib.hid hb1
  clear hI hC h kb hb1
  go_enter Tryd.func20, Tryd.ntmps20
  go_wp2_with (rw [hW1])
  refine HI.out.mono ?_
  rintro e w2 ⟨hb2, ⟨hE, gi, rfl, hi⟩ | ⟨hE, rfl⟩⟩
  · have hi' := hi.mono (T := fun b => w.heap.size + 1 ≤ b ∧ b < w2.heap.size) (fun b hb => ⟨by have := hb.1; omega, hb.2⟩)
    have HI2 := Lib.hid hi'; have HB2 := Lib.hid hb2; have HE := Lib.hid hE
    clear hi hi' hb2 hE k0 hW1
    go_wp2
    go_loopw [6] (fun i wr => ∃ k : Nat, k ≤ xs.length ∧ i = .int .i64 k ∧ RInv wr (fun b => w.heap.size + 1 ≤ b ∧ b < wr.heap.size) gi fs (addsL fs.length [] (xs.take k)) ∧ Below W1.heap.size W1 wr) (fun i _ => xs.length - (RowKit.intOf i).toNat)
    case atStart => exact ⟨0, by omega, rfl, HI2.out, HB2.out⟩
    case round =>
      obtain ⟨k, hk, rfl, hi, hb⟩ := hrel
      have hbl := KB.out.lt
      have kb := KB.out.below hb hbl
      have k1 := kb.cell 1; have k2 := kb.cell 2
      simp only [List.getElem?_toArray, List.getElem?_cons_zero, List.getElem?_cons_succ] at k1 k2
      have hC := HC.out.below (hb.mono HC.out.hB)
      have hsz := hb.size
      by_cases hlt : k < xs.length
      · have hkI : (k : Int) < (xs.length : Int) := by omega
        obtain ⟨ad, rfl, had, e0, e1, e2⟩ := nam_cells hC.r2 hlt
        have hnx := addsL_next (n := fs.length) (L := []) hlt
        obtain ⟨h32, hsy⟩ := hC.s2 _ (List.getElem_mem hlt)
        generalize xs[k] = x at *
        have hadd := radd_any (w := wr.drew) x.1 x.2 (show RInv wr.drew (fun b => w.heap.size + 1 ≤ b ∧ b < wr.heap.size) gi fs _ from hi) (fun b hb => hb.2) h32 hsy
        have HADD := Lib.hid hadd; have HB := Lib.hid hb; have HNX := Lib.hid hnx
        clear kb hC hi hb hadd hnx h32 hsy
        go_wp2
        refine region_tail 13 (by kernel_rfl) (by kernel_rfl) ?_
        simp only [List.take_succ_cons, List.take_zero, List.drop_succ_cons, List.drop_zero]
        iterate 13 still_step
        refine wpStill_nil ?_
        go_wp2_with fail
        refine HADD.out.mono ?_
        rintro e w3 ⟨rfl, hi3, hc3⟩
        have hs3 : wr.heap.size ≤ w3.heap.size := hc3.size
        have hb3 : Below W1.heap.size W1 w3 := HB.out.drew.trans (hc3.below (B := W1.heap.size) (fun i hi => by have := hi.1; omega) hsz)
        rw [← HNX.out] at hi3
        have hi3' := hi3.mono (T := fun b => w.heap.size + 1 ≤ b ∧ b < w3.heap.size) (fun b hb => by
          rcases hb with hb | hb
          · exact ⟨hb.1, by have := hb.2; omega⟩
          · exact ⟨by have : wr.heap.size ≤ b := hb.1; omega, hb.2⟩)
        have HI3 := Lib.hid hi3'; have HB3 := Lib.hid hb3
        clear hi3 hc3 hb3 hi3' HADD HB HNX e0 e1 e2 k1 k2
        go_wp2
        go_roundw
        case rel => exact ⟨k + 1, by omega, by go_num, HI3.out, HB3.out⟩
        case measure => simp [RowKit.intOf]; omega
      · obtain rfl : k = xs.length := by omega
        rw [List.take_length] at hi
        have hnew := rnewN_any A3 n3 c3 B ms hi hC.r3 hC.hB hC.l3 hC.s3
        have HN := Lib.hid hnew; have HB := Lib.hid hb
        clear kb hC hi hb hnew
        go_wp2_with fail
        refine HN.out.mono ?_
        rintro e w3 ⟨hb3, ⟨hK, g, rfl, hn⟩ | ⟨hK, rfl⟩⟩
        · have hfin : RMadePost w fs xs ms (.returned (.tuple #[wptr g, .int .i64 0])) w3 := by
            have hb03 := HB1.out.trans ((HB.out.trans (hb3.mono HB.out.size)).mono HB1.out.size)
            refine ⟨hb03, .inl ⟨?_, g, rfl, hn.mono (fun b hb => ⟨by have := hb.1; omega, hb.2⟩)⟩⟩
            unfold caseE
            rw [if_pos HE.out]; exact hK
          have HFIN := Lib.hid hfin
          clear hfin hn hb3 hK
          go_wp2
          go_ret2
          exact HFIN.out
        · have hfin : RMadePost w fs xs ms (.returned (.tuple #[.pointer none, .int .i64 (notK fs.length ms)])) w3 := by
            have hb03 := HB1.out.trans ((HB.out.trans (hb3.mono HB.out.size)).mono HB1.out.size)
            have hce : caseE fs ms = notK fs.length ms := by unfold caseE; rw [if_pos HE.out]
            exact ⟨hb03, .inr ⟨by rw [hce]; exact hK, by rw [hce]⟩⟩
          have HFIN := Lib.hid hfin
          clear hfin hb3 hK
          go_wp2
          go_ret2
          exact HFIN.out
  · have e1 : (newE fs != 0) = true := by rw [bne_iff_ne]; exact hE
    have hfin : RMadePost w fs xs ms (.returned (.tuple #[.pointer none, .int .i64 (newE fs)])) w2 := by
      have hce : caseE fs ms = newE fs := by unfold caseE; rw [if_neg hE]
      exact ⟨HB1.out.trans (hb2.mono HB1.out.size), .inr ⟨by rw [hce]; exact hE, by rw [hce]⟩⟩
    have HFIN := Lib.hid hfin
    clear hfin hb2 hE
    go_wp2
    go_ret2
    exact HFIN.out
end Go.Proofs.YtohggdfplmlinaaDoor
