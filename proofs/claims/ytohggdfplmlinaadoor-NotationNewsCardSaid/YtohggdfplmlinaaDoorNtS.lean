/-
  layer 4: Parse, Split, Same, Marks of a notation. Conditions: a notation in memory, texts of at most maxLen bytes.
-/
import Derived.Test.YtohggdfplmlinaaDoorNtR
namespace Go.Proofs.YtohggdfplmlinaaDoor
open Go.RowKit Go.Lib

/-- What Parse returns. -/
def ParsePost (w : World) (R : Rs) (e : Ending) (w' : World) : Prop :=
  ∃ vw, e = .returned (.tuple #[vw, .int .i64 R.at_, .int .i64 R.e]) ∧ w'.ownsRow w.heap.size 39 2 vw R.w.length (R.w.flatMap sndC) ∧ Below w.heap.size w w'
/-- What Split returns. -/
def SplitPost (w : World) (R : Rs) (e : Ending) (w' : World) : Prop :=
  ∃ vt, e = .returned (.tuple #[vt, .int .i64 R.at_, .int .i64 R.e]) ∧ w'.ownsRow w.heap.size 9 1 vt R.texts.length (R.texts.map fun t => .string (asB t)) ∧ Below w.heap.size w w'
section
variable {w : World} {S : Nat → Prop} {g : Nat} {fs : List ByteArray} {L : List Nam} {ms : List Mk}
set_option maxRecDepth 20000 in
theorem parse_any (s : ByteArray) (h : NotM w S g fs L ms) (hs : s.size ≤ maxLen) : Calls Tryd.prog 12 #[wptr g, .string s] w (ParsePost w (readR L ms (bs s))) := by
  have hr := read_any s h hs
  obtain ⟨R, hR⟩ : ∃ R, readR L ms (bs s) = R := ⟨_, rfl⟩
  rw [hR] at hr ⊢
  have HR := Lib.hid hr
  clear hr hR h
  go_enter Tryd.func12, Tryd.ntmps12
  go_wp2_with fail
  refine HR.out.mono ?_
  rintro e w1 ⟨vw, vt, rfl, h1, -, h3⟩
  obtain ⟨A, c, rfl, -, -⟩ := ownsRow_form h1
  have H1 := Lib.hid h1; have H3 := Lib.hid h3
  clear h1 h3
  go_wp2
  go_ret3
  exact ⟨_, rfl, H1.out, H3.out⟩
set_option maxRecDepth 20000 in
theorem split_any (s : ByteArray) (h : NotM w S g fs L ms) (hs : s.size ≤ maxLen) : Calls Tryd.prog 23 #[wptr g, .string s] w (SplitPost w (readR L ms (bs s))) := by
  have hr := read_any s h hs
  obtain ⟨R, hR⟩ : ∃ R, readR L ms (bs s) = R := ⟨_, rfl⟩
  rw [hR] at hr ⊢
  have HR := Lib.hid hr
  clear hr hR h
  go_enter Tryd.func23, Tryd.ntmps23
  go_wp2_with fail
  refine HR.out.mono ?_
  rintro e w1 ⟨vw, vt, rfl, -, h1, h3⟩
  obtain ⟨A, c, rfl, -, -⟩ := ownsRow_form h1
  have H1 := Lib.hid h1; have H3 := Lib.hid h3
  clear h1 h3
  go_wp2
  go_ret3
  exact ⟨_, rfl, H1.out, H3.out⟩
theorem readR_w32 (t : List UInt8) : (readR L ms t).w.length ≤ 32 := by
  by_cases h : (readR L ms t).e = 0
  · exact (readR_lens h).2
  · rcases readR_cases (L := L) (ms := ms) t with ⟨_, h1⟩ | ⟨pre, u, rest, e, h1, h2 | h2⟩
    · rw [h1] at h; exact absurd rfl h
    · rw [h2]; exact Nat.zero_le _
    · rw [h2]; exact Nat.zero_le _
set_option maxRecDepth 20000 in
set_option maxHeartbeats 1000000 in
theorem same_any (s t : ByteArray) (h : NotM w S g fs L ms) (hs : s.size ≤ maxLen) (ht : t.size ≤ maxLen) : Calls Tryd.prog 19 #[wptr g, .string s, .string t] w fun e w' => e = .returned (.bool (sameR L ms (bs s) (bs t))) ∧ Below w.heap.size w w' := by
  have hr := parse_any s h hs
  have hq := fun W (hW : Below w.heap.size w W) => parse_any t (h.below hW) ht
  have h32 := readR_w32 (L := L) (ms := ms) (bs s)
  unfold sameR
  generalize readR L ms (bs s) = R at *
  generalize readR L ms (bs t) = R' at *
  have HR := Lib.hid hr; have HQ := Lib.hid hq; have H32 := Lib.hid h32
  clear hr hq h h32
  go_enter Tryd.func19, Tryd.ntmps19
  go_wp2_with fail
  refine HR.out.mono ?_
  rintro e w1 ⟨v1, rfl, h1, h2⟩
  obtain ⟨A, c, rfl, -, -⟩ := ownsRow_form h1
  have H1 := Lib.hid h1; have H2 := Lib.hid h2
  clear h1 h2
  go_wp2_with fail
  refine (HQ.out _ H2.out).mono ?_
  rintro e w2 ⟨v2, rfl, h3, h4⟩
  obtain ⟨A', c', rfl, -, -⟩ := ownsRow_form h3
  have hr1 := (Reads.of_own H1.out).below h4
  have hr2 := Reads.of_own h3
  have hb := H2.out.trans (h4.mono H2.out.size)
  have heq := fun W (hW : Below w2.heap.size w2 W) => wEqual_any A A' R.w.length R'.w.length c c' w2.heap.size R.w R'.w W ((hr1.more h4.size).below hW) (hr2.below hW) hW.size (by unfold maxLen; have := H32.out; omega)
  have HB := Lib.hid hb; have HE := Lib.hid heq
  clear h3 h4 hr1 hr2 hb heq
  by_cases h1 : R.e = 0
  · have e1 : (R.e == 0) = true := by rw [h1]; rfl
    have G1 := Lib.hid h1
    by_cases h2 : R'.e = 0
    · have e2 : (R'.e == 0) = true := by rw [h2]; rfl
      have G2 := Lib.hid h2
      clear h1 h2
      go_wp2_with fail
      refine (HE.out _ (Below.refl _ _)).mono ?_
      rintro e w3 ⟨rfl, hb3⟩
      have HB3 := Lib.hid (HB.out.trans (hb3.mono HB.out.size))
      clear hb3
      go_wp2
      go_ret
      exact ⟨by rw [decide_eq_true G1.out, decide_eq_true G2.out]; rfl, HB3.out⟩
    · have e2 : (R'.e == 0) = false := by rw [beq_eq_false_iff_ne]; exact h2
      have G2 := Lib.hid h2
      clear h1 h2
      go_wp2
      go_ret
      exact ⟨by rw [decide_eq_false G2.out, Bool.false_and, Bool.and_false]; rfl, HB.out⟩
  · have e1 : (R.e == 0) = false := by rw [beq_eq_false_iff_ne]; exact h1
    have G1 := Lib.hid h1
    clear h1
    go_wp2
    go_ret
    exact ⟨by rw [decide_eq_false G1.out, Bool.false_and]; rfl, HB.out⟩
set_option maxRecDepth 20000 in
theorem marks_any (h : NotM w S g fs L ms) : Calls Tryd.prog 21 #[wptr g] w fun e w' => ∃ v, e = .returned v ∧ w'.ownsRow w.heap.size 58 4 v ms.length (ms.flatMap markC) ∧ Below w.heap.size w w' := by
  obtain ⟨gi, A, c, bm, n, f, h1, -, h2, -, -, h5⟩ := h.parts
  have hv := nvalid_any h
  have hc := cloneM_any A ms.length c (ms.flatMap markC) w w.heap.size h2 (markC_one ms) (Nat.le_refl _) (by omega)
  have c1 := h1.cell 1
  simp only [List.getElem?_toArray, List.getElem?_cons_zero, List.getElem?_cons_succ] at c1
  have HV := Lib.hid hv; have HC := Lib.hid hc
  clear hv hc h1 h2 h
  go_enter Tryd.func21, Tryd.ntmps21
  go_wp2_with fail
  refine HV.out.mono ?_
  rintro e w1 ⟨rfl, rfl⟩
  go_wp2_with fail
  refine HC.out.mono ?_
  rintro e w2 ⟨v, rfl, h1, h2⟩
  obtain ⟨A', c', rfl, -, -⟩ := ownsRow_form h1
  have H1 := Lib.hid h1; have H2 := Lib.hid h2
  clear h1 h2
  go_wp2
  go_ret
  exact ⟨_, rfl, H1.out, H2.out⟩
end
end Go.Proofs.YtohggdfplmlinaaDoor
