/-
  layer 4: Parse, Split, Same, Marks of a notation. Conditions: a notation in memory, texts of at most maxLen bytes.
-/
import Derived.Test.YtohggdfplmlinaaGreatDoorZaNtR
import Derived.Laws.Cover1
namespace Go.Proofs.YtohggdfplmlinaaGreatDoor
open Go.RowKit Go.Lib

/-- What Parse returns. -/
def ParsePost (w : World) (R : Rs) (e : Ending) (w' : World) : Prop :=
  ∃ vw, e = .returned (.tuple #[vw, .int .i64 R.at_, .int .i64 R.e]) ∧ w'.ownsRow w.heap.size 30 2 vw R.w.length (R.w.flatMap sndC) ∧ Below w.heap.size w w'
/-- What Split returns. -/
def SplitPost (w : World) (R : Rs) (e : Ending) (w' : World) : Prop :=
  ∃ vt, e = .returned (.tuple #[vt, .int .i64 R.at_, .int .i64 R.e]) ∧ w'.ownsRow w.heap.size 9 1 vt R.texts.length (R.texts.map fun t => .string (asB t)) ∧ Below w.heap.size w w'
section
variable {w : World} {S : Nat → Prop} {g : Nat} {fs : List ByteArray} {L : List Nam} {ms : List Mk}
set_option maxRecDepth 20000 in
theorem parse_any (s : ByteArray) (h : NotM w S g fs L ms) (hs : s.size ≤ maxLen) : Calls Tryz.prog 14 #[wptr g, .string s] w (ParsePost w (readR L ms (bs s))) := by
  have hr := read_any s h hs
  obtain ⟨R, hR⟩ : ∃ R, readR L ms (bs s) = R := ⟨_, rfl⟩
  rw [hR] at hr ⊢
  have HR := Lib.hid hr
  clear hr hR h
  go_enter Tryz.func14, Tryz.ntmps14
  go_wp2_with fail
  refine HR.out.mono ?_
  rintro e w1 ⟨vw, vt, rfl, h1, -, h3⟩
  obtain ⟨A, c, rfl, -, -⟩ := ownsRow_form h1
  have H1 := Lib.hid h1; have H3 := Lib.hid h3
  clear h1 h3
  go_wp2
  go_ret3
  exact ⟨_, rfl, H1.out, H3.out⟩
set_option maxRecDepth 20000 in
theorem split_any (s : ByteArray) (h : NotM w S g fs L ms) (hs : s.size ≤ maxLen) : Calls Tryz.prog 16 #[wptr g, .string s] w (SplitPost w (readR L ms (bs s))) := by
  have hr := read_any s h hs
  obtain ⟨R, hR⟩ : ∃ R, readR L ms (bs s) = R := ⟨_, rfl⟩
  rw [hR] at hr ⊢
  have HR := Lib.hid hr
  clear hr hR h
  go_enter Tryz.func16, Tryz.ntmps16
  go_wp2_with fail
  refine HR.out.mono ?_
  rintro e w1 ⟨vw, vt, rfl, -, h1, h3⟩
  obtain ⟨A, c, rfl, -, -⟩ := ownsRow_form h1
  have H1 := Lib.hid h1; have H3 := Lib.hid h3
  clear h1 h3
  go_wp2
  go_ret3
  exact ⟨_, rfl, H1.out, H3.out⟩
theorem readR_w32 (t : List UInt8) : (readR L ms t).w.length ≤ 32 := by
  by_cases h : (readR L ms t).e = 0
  · exact (readR_lens h).2
  · rcases readR_cases (L := L) (ms := ms) t with ⟨_, h1⟩ | ⟨pre, u, rest, e, h1, h2 | h2⟩
    · rw [h1] at h; exact absurd rfl h
    · rw [h2]; exact Nat.zero_le _
    · rw [h2]; exact Nat.zero_le _
set_option maxRecDepth 20000 in
set_option maxHeartbeats 1000000 in
theorem same_any (s t : ByteArray) (h : NotM w S g fs L ms) (hs : s.size ≤ maxLen) (ht : t.size ≤ maxLen) : Calls Tryz.prog 22 #[wptr g, .string s, .string t] w fun e w' => e = .returned (.bool (sameR L ms (bs s) (bs t))) ∧ Below w.heap.size w w' := by
  have hr := parse_any s h hs
  have hq := fun W (hW : Below w.heap.size w W) => parse_any t (h.below hW) ht
  have h32 := readR_w32 (L := L) (ms := ms) (bs s)
  unfold sameR
  generalize readR L ms (bs s) = R at *
  generalize readR L ms (bs t) = R' at *
  have HR := Lib.hid hr; have HQ := Lib.hid hq; have H32 := Lib.hid h32
  clear hr hq h h32
  go_enter Tryz.func22, Tryz.ntmps22
  go_wp2_with fail
  refine HR.out.mono ?_
  rintro e w1 ⟨v1, rfl, h1, h2⟩
  obtain ⟨A, c, rfl, -, -⟩ := ownsRow_form h1
  have H1 := Lib.hid h1; have H2 := Lib.hid h2
  clear h1 h2
  go_wp2_with fail
  refine (HQ.out _ H2.out).mono ?_
  rintro e w2 ⟨v2, rfl, h3, h4⟩
  obtain ⟨A', c', rfl, -, -⟩ := ownsRow_form h3
  have hr1 := (Reads.of_own H1.out).below h4
  have hr2 := Reads.of_own h3
  have hb := H2.out.trans (h4.mono H2.out.size)
  have heq := fun W (hW : Below w2.heap.size w2 W) => wEqual_any A A' R.w.length R'.w.length c c' w2.heap.size R.w R'.w W ((hr1.more h4.size).below hW) (hr2.below hW) hW.size (by unfold maxLen; have := H32.out; omega)
  have HB := Lib.hid hb; have HE := Lib.hid heq
  clear h3 h4 hr1 hr2 hb heq
  by_cases h1 : R.e = 0
  · have e1 : (R.e == 0) = true := by rw [h1]; rfl
    have G1 := Lib.hid h1
    by_cases h2 : R'.e = 0
    · have e2 : (R'.e == 0) = true := by rw [h2]; rfl
      have G2 := Lib.hid h2
      clear h1 h2
      go_wp2_with fail
      refine (HE.out _ (Below.refl _ _)).mono ?_
      rintro e w3 ⟨rfl, hb3⟩
      have HB3 := Lib.hid (HB.out.trans (hb3.mono HB.out.size))
      clear hb3
      go_wp2
      go_ret
      exact ⟨by rw [decide_eq_true G1.out, decide_eq_true G2.out]; rfl, HB3.out⟩
    · have e2 : (R'.e == 0) = false := by rw [beq_eq_false_iff_ne]; exact h2
      have G2 := Lib.hid h2
      clear h1 h2
      go_wp2
      go_ret
      exact ⟨by rw [decide_eq_false G2.out, Bool.false_and, Bool.and_false]; rfl, HB.out⟩
  · have e1 : (R.e == 0) = false := by rw [beq_eq_false_iff_ne]; exact h1
    have G1 := Lib.hid h1
    clear h1
    go_wp2
    go_ret
    exact ⟨by rw [decide_eq_false G1.out, Bool.false_and]; rfl, HB.out⟩
end
end Go.Proofs.YtohggdfplmlinaaGreatDoor
namespace Go.Proofs.YtohggdfplmlinaaGreatDoor
open Go.RowKit Go.Lib

theorem bytesLess_lt : ∀ (x y : List UInt8), Op.bytesLess x y = decide (x < y)
  | _, [] => by rw [decide_eq_false (List.not_lt_nil _)]; unfold Op.bytesLess; rfl
  | [], b :: y => by rw [decide_eq_true (List.nil_lt_cons b y)]; rfl
  | a :: x, b :: y => by
    rw [Op.bytesLess, bytesLess_lt x y, Bool.eq_iff_iff]
    simp only [Bool.or_eq_true, Bool.and_eq_true, decide_eq_true_eq, beq_iff_eq, List.cons_lt_cons_iff]
/-- What a trial leaves: the best text so far. -/
def TryPost (w : World) (b8 : Nat) (best : List UInt8) (e : Ending) (w' : World) : Prop :=
  e = .returned (.tuple #[]) ∧ Blk w' b8 9 #[.string (asB best)] ∧ ChgS (fun b => b = b8) w w'
section
variable {w : World} {S : Nat → Prop} {g : Nat} {fs : List ByteArray} {L : List Nam} {ms : List Mk}
set_option maxRecDepth 20000 in
set_option maxHeartbeats 1000000 in
theorem try_any (text : ByteArray) (best : List UInt8) (x : Snd) (b8 b2 b3 : Nat) (h : NotM w S g fs L ms) (h8 : Blk w b8 9 #[.string (asB best)]) (h2 : Blk w b2 32 #[wptr g]) (h3 : Blk w b3 30 #[.int .u32 x.1, .int .u32 x.2]) (ht : text.size ≤ maxLen) (hbest : best.length ≤ maxLen) :
    Calls Tryz.prog 39 #[.string text, wptr b8, wptr b2, wptr b3] w (TryPost w b8 (tryS L ms x best (bs text))) := by
  have hp := fun W (hW : Below w.heap.size w W) => parse_any text (h.below hW) ht
  have c8 := h8.cell 0; have c2 := h2.cell 0; have c30 := h3.cell 0; have c31 := h3.cell 1
  simp only [List.getElem?_toArray, List.getElem?_cons_zero, List.getElem?_cons_succ] at c8 c2 c30 c31
  have HP := Lib.hid hp; have H8 := Lib.hid h8; have H2 := Lib.hid h2; have H3 := Lib.hid h3
  clear hp h8 h2 h3 h
  have hbl : (asB best).size = best.length := by rw [← size_bs, bs_asB]
  go_enter Tryz.func39, Tryz.ntmps39
  obtain ⟨R, hRW⟩ : ∃ R, readR L ms (bs text) = R := ⟨_, rfl⟩
  rw [hRW] at HP
  have HRW := Lib.hid hRW
  clear hRW
  by_cases hb : best = []
  · have hE : best.isEmpty = true := by rw [hb]; rfl
    have GB := Lib.hid (show better best (bs text) = true from by unfold better; rw [decide_eq_true hb]; rfl)
    clear hb
    go_wp2_with fail
    refine (HP.out w (Below.refl _ _)).mono ?_
    rintro e w1 ⟨v1, rfl, h1, h2⟩
    obtain ⟨A, c, rfl, -, -⟩ := ownsRow_form h1
    have hr := Reads.of_own h1
    have k8 := H8.out.below h2 H8.out.lt; have k3 := H3.out.below h2 H3.out.lt
    have HR := Lib.hid hr; have HB := Lib.hid h2; have K8 := Lib.hid k8
    have c8 := k8.cell 0; have c30 := k3.cell 0; have c31 := k3.cell 1; have f8 := k8.frozen 0
    simp only [List.getElem?_toArray, List.getElem?_cons_zero, List.getElem?_cons_succ] at c8 c30 c31
    clear h1 h2 hr k8 k3 HP H8 H2 H3
    have hno : isOne L ms x (bs text) = false → TryPost w b8 (tryS L ms x best (bs text)) (.returned (.tuple #[])) w1.drew := fun hf => by
      refine ⟨rfl, ?_, .of_below HB.out.drew⟩
      unfold tryS
      rw [hf, Bool.and_false, if_neg (by decide)]
      exact K8.out
    unfold isOne at hno
    rw [HRW.out] at hno
    by_cases g1 : R.e = 0
    · have e1 : (R.e == 0) = true := by rw [g1]; rfl
      by_cases g2 : ∃ y, R.w = [y]
      · obtain ⟨y, hy⟩ := g2
        rw [hy] at HR hno
        have hy1 : R.w.length = 1 := by rw [hy]; rfl
        have hr := HR.out
        obtain ⟨ad, rfl, had, y0, y1⟩ := snd_cells hr (i := 0) (by simp)
        simp only [List.getElem_cons_zero, Nat.zero_mul] at y0 y1
        rw [hy1]
        clear hr HR
        have e0 : ad.add 0 = ad := by unfold Addr.add; rw [if_pos rfl]
        rw [e0] at y0 y1
        by_cases q1 : y.1 = x.1
        · by_cases q2 : y.2 = x.2
          · have p1 : ((y.1 : Int) == (x.1 : Int)) = true := by rw [q1]; simp
            have p2 : ((y.2 : Int) == (x.2 : Int)) = true := by rw [q2]; simp
            have hone : isOne L ms x (bs text) = true := by
              rw [isOne_iff, HRW.out]
              exact ⟨g1, by rw [hy, show y = x from Prod.ext q1 q2]⟩
            have hyes : TryPost w b8 (tryS L ms x best (bs text)) (.returned (.tuple #[])) (w1.drew.setCell ⟨b8, 0, none⟩ (.string text)) := by
              refine ⟨rfl, ?_, (ChgS.of_below (S := fun b => b = b8) HB.out.drew).setCell (p := ⟨b8, 0, none⟩) (.inl rfl) _⟩
              unfold tryS
              rw [hone, GB.out, if_pos (by decide), show asB (bs text) = text from str_eq rfl]
              exact K8.out.drew.set_ 0 _
            have HY := Lib.hid hyes
            clear hyes hone hno q1 q2 g1 hy
            go_wp2
            go_region
            go_wp2
            refine bodyPost_ret (results_none rfl _ _ _) rfl ?_
            exact HY.out
          · have p1 : ((y.1 : Int) == (x.1 : Int)) = true := by rw [q1]; simp
            have p2 : ((y.2 : Int) == (x.2 : Int)) = false := by rw [beq_eq_false_iff_ne]; omega
            have hn := hno (by rw [decide_eq_false (show ¬ [y] = [x] from fun h => q2 (by rw [(List.cons.inj h).1])), Bool.and_false])
            have HN := Lib.hid hn
            clear hn hno q1 q2 g1 hy
            go_wp2
            go_region
            go_wp2
            refine bodyPost_ret (results_none rfl _ _ _) rfl ?_
            exact HN.out
        · have p1 : ((y.1 : Int) == (x.1 : Int)) = false := by rw [beq_eq_false_iff_ne]; omega
          have hn := hno (by rw [decide_eq_false (show ¬ [y] = [x] from fun h => q1 (by rw [(List.cons.inj h).1])), Bool.and_false])
          have HN := Lib.hid hn
          clear hn hno q1 g1 hy
          go_wp2
          go_region
          go_wp2
          refine bodyPost_ret (results_none rfl _ _ _) rfl ?_
          exact HN.out
      · have hy1 : ((R.w.length : Int) == 1) = false := by
          rw [beq_eq_false_iff_ne]
          intro h
          apply g2
          rw [← List.length_eq_one_iff]
          omega
        have hn := hno (by rw [decide_eq_false (fun h => g2 ⟨x, h⟩), Bool.and_false])
        have HN := Lib.hid hn
        clear hn hno g1 g2
        go_wp2
        go_region
        go_wp2
        refine bodyPost_ret (results_none rfl _ _ _) rfl ?_
        exact HN.out
    · have e1 : (R.e == 0) = false := by rw [beq_eq_false_iff_ne]; exact g1
      have hn := hno (by rw [decide_eq_false g1, Bool.false_and])
      have HN := Lib.hid hn
      clear hn hno g1
      go_wp2
      go_region
      go_wp2
      refine bodyPost_ret (results_none rfl _ _ _) rfl ?_
      exact HN.out

  · have hE : best.isEmpty = false := by cases best with
      | nil => exact absurd rfl hb
      | cons _ _ => rfl
    have HNB := Lib.hid hb
    clear hb
    have hstop : better best (bs text) = false → TryPost w b8 (tryS L ms x best (bs text)) (.returned (.tuple #[])) w := fun hf => by
      refine ⟨rfl, ?_, .refl _ _⟩
      unfold tryS
      rw [hf, Bool.false_and, if_neg (by decide)]
      exact H8.out
    rcases Nat.lt_trichotomy text.size best.length with hlt | heq | hgt
    · have h1 : ¬ best.length < text.size := by omega
      have h2 : ((text.size : Int) == (best.length : Int)) = false := by rw [beq_eq_false_iff_ne]; omega
      have GB := Lib.hid (show better best (bs text) = true from by unfold better; rw [size_bs, decide_eq_true hlt, Bool.or_true]; rfl)
      clear hstop
      go_wp2_with fail
      refine (HP.out w (Below.refl _ _)).mono ?_
      rintro e w1 ⟨v1, rfl, h1, h2⟩
      obtain ⟨A, c, rfl, -, -⟩ := ownsRow_form h1
      have hr := Reads.of_own h1
      have k8 := H8.out.below h2 H8.out.lt; have k3 := H3.out.below h2 H3.out.lt
      have HR := Lib.hid hr; have HB := Lib.hid h2; have K8 := Lib.hid k8
      have c8 := k8.cell 0; have c30 := k3.cell 0; have c31 := k3.cell 1; have f8 := k8.frozen 0
      simp only [List.getElem?_toArray, List.getElem?_cons_zero, List.getElem?_cons_succ] at c8 c30 c31
      clear h1 h2 hr k8 k3 HP H8 H2 H3
      have hno : isOne L ms x (bs text) = false → TryPost w b8 (tryS L ms x best (bs text)) (.returned (.tuple #[])) w1.drew := fun hf => by
        refine ⟨rfl, ?_, .of_below HB.out.drew⟩
        unfold tryS
        rw [hf, Bool.and_false, if_neg (by decide)]
        exact K8.out
      unfold isOne at hno
      rw [HRW.out] at hno
      by_cases g1 : R.e = 0
      · have e1 : (R.e == 0) = true := by rw [g1]; rfl
        by_cases g2 : ∃ y, R.w = [y]
        · obtain ⟨y, hy⟩ := g2
          rw [hy] at HR hno
          have hy1 : R.w.length = 1 := by rw [hy]; rfl
          have hr := HR.out
          obtain ⟨ad, rfl, had, y0, y1⟩ := snd_cells hr (i := 0) (by simp)
          simp only [List.getElem_cons_zero, Nat.zero_mul] at y0 y1
          rw [hy1]
          clear hr HR
          have e0 : ad.add 0 = ad := by unfold Addr.add; rw [if_pos rfl]
          rw [e0] at y0 y1
          by_cases q1 : y.1 = x.1
          · by_cases q2 : y.2 = x.2
            · have p1 : ((y.1 : Int) == (x.1 : Int)) = true := by rw [q1]; simp
              have p2 : ((y.2 : Int) == (x.2 : Int)) = true := by rw [q2]; simp
              have hone : isOne L ms x (bs text) = true := by
                rw [isOne_iff, HRW.out]
                exact ⟨g1, by rw [hy, show y = x from Prod.ext q1 q2]⟩
              have hyes : TryPost w b8 (tryS L ms x best (bs text)) (.returned (.tuple #[])) (w1.drew.setCell ⟨b8, 0, none⟩ (.string text)) := by
                refine ⟨rfl, ?_, (ChgS.of_below (S := fun b => b = b8) HB.out.drew).setCell (p := ⟨b8, 0, none⟩) (.inl rfl) _⟩
                unfold tryS
                rw [hone, GB.out, if_pos (by decide), show asB (bs text) = text from str_eq rfl]
                exact K8.out.drew.set_ 0 _
              have HY := Lib.hid hyes
              clear hyes hone hno q1 q2 g1 hy
              go_wp2
              go_region
              go_wp2
              refine bodyPost_ret (results_none rfl _ _ _) rfl ?_
              exact HY.out
            · have p1 : ((y.1 : Int) == (x.1 : Int)) = true := by rw [q1]; simp
              have p2 : ((y.2 : Int) == (x.2 : Int)) = false := by rw [beq_eq_false_iff_ne]; omega
              have hn := hno (by rw [decide_eq_false (show ¬ [y] = [x] from fun h => q2 (by rw [(List.cons.inj h).1])), Bool.and_false])
              have HN := Lib.hid hn
              clear hn hno q1 q2 g1 hy
              go_wp2
              go_region
              go_wp2
              refine bodyPost_ret (results_none rfl _ _ _) rfl ?_
              exact HN.out
          · have p1 : ((y.1 : Int) == (x.1 : Int)) = false := by rw [beq_eq_false_iff_ne]; omega
            have hn := hno (by rw [decide_eq_false (show ¬ [y] = [x] from fun h => q1 (by rw [(List.cons.inj h).1])), Bool.and_false])
            have HN := Lib.hid hn
            clear hn hno q1 g1 hy
            go_wp2
            go_region
            go_wp2
            refine bodyPost_ret (results_none rfl _ _ _) rfl ?_
            exact HN.out
        · have hy1 : ((R.w.length : Int) == 1) = false := by
            rw [beq_eq_false_iff_ne]
            intro h
            apply g2
            rw [← List.length_eq_one_iff]
            omega
          have hn := hno (by rw [decide_eq_false (fun h => g2 ⟨x, h⟩), Bool.and_false])
          have HN := Lib.hid hn
          clear hn hno g1 g2
          go_wp2
          go_region
          go_wp2
          refine bodyPost_ret (results_none rfl _ _ _) rfl ?_
          exact HN.out
      · have e1 : (R.e == 0) = false := by rw [beq_eq_false_iff_ne]; exact g1
        have hn := hno (by rw [decide_eq_false g1, Bool.false_and])
        have HN := Lib.hid hn
        clear hn hno g1
        go_wp2
        go_region
        go_wp2
        refine bodyPost_ret (results_none rfl _ _ _) rfl ?_
        exact HN.out

    · have h1 : ¬ best.length < text.size := by omega
      have h2 : ((text.size : Int) == (best.length : Int)) = true := by rw [heq]; simp
      cases hl : Op.bytesLess text.toList best with
      | true =>
        have GB := Lib.hid (show better best (bs text) = true from by
          rw [bytesLess_lt, ByteArray.toList_eq] at hl
          unfold better; rw [size_bs, decide_eq_true heq, show decide (bs text < best) = true from hl, Bool.and_true, Bool.or_true])
        clear hstop
        go_wp2_with fail
        refine (HP.out w (Below.refl _ _)).mono ?_
        rintro e w1 ⟨v1, rfl, h1, h2⟩
        obtain ⟨A, c, rfl, -, -⟩ := ownsRow_form h1
        have hr := Reads.of_own h1
        have k8 := H8.out.below h2 H8.out.lt; have k3 := H3.out.below h2 H3.out.lt
        have HR := Lib.hid hr; have HB := Lib.hid h2; have K8 := Lib.hid k8
        have c8 := k8.cell 0; have c30 := k3.cell 0; have c31 := k3.cell 1; have f8 := k8.frozen 0
        simp only [List.getElem?_toArray, List.getElem?_cons_zero, List.getElem?_cons_succ] at c8 c30 c31
        clear h1 h2 hr k8 k3 HP H8 H2 H3
        have hno : isOne L ms x (bs text) = false → TryPost w b8 (tryS L ms x best (bs text)) (.returned (.tuple #[])) w1.drew := fun hf => by
          refine ⟨rfl, ?_, .of_below HB.out.drew⟩
          unfold tryS
          rw [hf, Bool.and_false, if_neg (by decide)]
          exact K8.out
        unfold isOne at hno
        rw [HRW.out] at hno
        by_cases g1 : R.e = 0
        · have e1 : (R.e == 0) = true := by rw [g1]; rfl
          by_cases g2 : ∃ y, R.w = [y]
          · obtain ⟨y, hy⟩ := g2
            rw [hy] at HR hno
            have hy1 : R.w.length = 1 := by rw [hy]; rfl
            have hr := HR.out
            obtain ⟨ad, rfl, had, y0, y1⟩ := snd_cells hr (i := 0) (by simp)
            simp only [List.getElem_cons_zero, Nat.zero_mul] at y0 y1
            rw [hy1]
            clear hr HR
            have e0 : ad.add 0 = ad := by unfold Addr.add; rw [if_pos rfl]
            rw [e0] at y0 y1
            by_cases q1 : y.1 = x.1
            · by_cases q2 : y.2 = x.2
              · have p1 : ((y.1 : Int) == (x.1 : Int)) = true := by rw [q1]; simp
                have p2 : ((y.2 : Int) == (x.2 : Int)) = true := by rw [q2]; simp
                have hone : isOne L ms x (bs text) = true := by
                  rw [isOne_iff, HRW.out]
                  exact ⟨g1, by rw [hy, show y = x from Prod.ext q1 q2]⟩
                have hyes : TryPost w b8 (tryS L ms x best (bs text)) (.returned (.tuple #[])) (w1.drew.setCell ⟨b8, 0, none⟩ (.string text)) := by
                  refine ⟨rfl, ?_, (ChgS.of_below (S := fun b => b = b8) HB.out.drew).setCell (p := ⟨b8, 0, none⟩) (.inl rfl) _⟩
                  unfold tryS
                  rw [hone, GB.out, if_pos (by decide), show asB (bs text) = text from str_eq rfl]
                  exact K8.out.drew.set_ 0 _
                have HY := Lib.hid hyes
                clear hyes hone hno q1 q2 g1 hy
                go_wp2
                go_region
                go_wp2
                refine bodyPost_ret (results_none rfl _ _ _) rfl ?_
                exact HY.out
              · have p1 : ((y.1 : Int) == (x.1 : Int)) = true := by rw [q1]; simp
                have p2 : ((y.2 : Int) == (x.2 : Int)) = false := by rw [beq_eq_false_iff_ne]; omega
                have hn := hno (by rw [decide_eq_false (show ¬ [y] = [x] from fun h => q2 (by rw [(List.cons.inj h).1])), Bool.and_false])
                have HN := Lib.hid hn
                clear hn hno q1 q2 g1 hy
                go_wp2
                go_region
                go_wp2
                refine bodyPost_ret (results_none rfl _ _ _) rfl ?_
                exact HN.out
            · have p1 : ((y.1 : Int) == (x.1 : Int)) = false := by rw [beq_eq_false_iff_ne]; omega
              have hn := hno (by rw [decide_eq_false (show ¬ [y] = [x] from fun h => q1 (by rw [(List.cons.inj h).1])), Bool.and_false])
              have HN := Lib.hid hn
              clear hn hno q1 g1 hy
              go_wp2
              go_region
              go_wp2
              refine bodyPost_ret (results_none rfl _ _ _) rfl ?_
              exact HN.out
          · have hy1 : ((R.w.length : Int) == 1) = false := by
              rw [beq_eq_false_iff_ne]
              intro h
              apply g2
              rw [← List.length_eq_one_iff]
              omega
            have hn := hno (by rw [decide_eq_false (fun h => g2 ⟨x, h⟩), Bool.and_false])
            have HN := Lib.hid hn
            clear hn hno g1 g2
            go_wp2
            go_region
            go_wp2
            refine bodyPost_ret (results_none rfl _ _ _) rfl ?_
            exact HN.out
        · have e1 : (R.e == 0) = false := by rw [beq_eq_false_iff_ne]; exact g1
          have hn := hno (by rw [decide_eq_false g1, Bool.false_and])
          have HN := Lib.hid hn
          clear hn hno g1
          go_wp2
          go_region
          go_wp2
          refine bodyPost_ret (results_none rfl _ _ _) rfl ?_
          exact HN.out

      | false =>
        have hst := hstop (by
          rw [bytesLess_lt, ByteArray.toList_eq] at hl
          unfold better; rw [size_bs, decide_eq_false HNB.out, decide_eq_false (show ¬ text.size < best.length by omega), show decide (bs text < best) = false from hl, Bool.and_false]; rfl)
        have HST := Lib.hid hst
        clear hstop hst
        go_wp2
        refine bodyPost_ret (results_none rfl _ _ _) rfl ?_
        exact HST.out
    · have h2 : ((text.size : Int) == (best.length : Int)) = false := by rw [beq_eq_false_iff_ne]; omega
      have hst := hstop (by
        unfold better; rw [size_bs, decide_eq_false HNB.out, decide_eq_false (show ¬ text.size < best.length by omega), decide_eq_false (show ¬ text.size = best.length by omega)]; rfl)
      have HST := Lib.hid hst
      clear hstop hst
      go_wp2
      refine bodyPost_ret (results_none rfl _ _ _) rfl ?_
      exact HST.out
end
end Go.Proofs.YtohggdfplmlinaaGreatDoor
