/-
  layer 4 at the second seat: the reference's alone, Same, by what its Parse returns. Conditions: what Parse returns.
-/
import Derived.Test.YtohggdfplmlinaaGreatDoorZaap
import Derived.Deep.QuietTactic
import Derived.BigQuiet
import Derived.Test.YtohggdfplmlinaaGreatDoorZaac
namespace Go.Proofs.YtohggdfplmlinaaGreatDoor
open Go.RowKit Go.Lib

section
variable {w : World} {S : Nat → Prop} {g : Nat} {fs : List ByteArray} {L : List Nam} {ms : List Mk} {R : Rs}
def aloneR (R : Rs) (x : Snd) : Bool := decide (R.e = 0) && decide (R.w = [x])
theorem bdrewN' {B : Nat} {w w' : World} (h : Below B w w') (n : Nat) : Below B w (w'.drewN n) := ⟨h.os, h.tape, h.output, h.size, h.block⟩
set_option linter.unusedSimpArgs false in
set_option maxRecDepth 20000 in
set_option maxHeartbeats 2000000 in
theorem ralone_any (s : ByteArray) (x : Snd) (hp : ∀ W, Below w.heap.size w W → Calls Tryz.prog 15 #[wptr g, .string s] W (ParsePost W R)) :
    Calls Tryz.prog 42 #[wptr g, .string s, sndV x] w fun e w' => e = .returned (.bool (aloneR R x)) ∧ Below w.heap.size w w' := by
  obtain ⟨r, hr⟩ : ∃ r, aloneR R x = r := ⟨_, rfl⟩
  rw [hr]
  unfold aloneR at hr
  have hb0 := (Below.refl w.heap.size w).alloc (Nat.le_refl _) (.cells #[.int .u32 x.1, .int .u32 x.2] 30)
  have hx0 := Blk.new w 30 #[.int .u32 x.1, .int .u32 x.2]
  obtain ⟨W0, hW0⟩ : ∃ W, w.alloc (.cells #[.int .u32 x.1, .int .u32 x.2] 30) = W := ⟨_, rfl⟩
  rw [hW0] at hb0 hx0
  have hpp := hp W0 hb0
  have HP := Lib.hid hpp; have HB0 := Lib.hid hb0; have HX0 := Lib.hid hx0; have HW := Lib.hid hW0; have HRR := Lib.hid hr
  have hsz0 := hx0.lt
  clear hp hpp hb0 hx0 hW0 hr
  obtain ⟨x1, x2⟩ := x
  go_enter Tryz.func42, Tryz.ntmps42
  go_wp2_with fail
  rw [HW.out]
  refine HP.out.mono ?_
  rintro e w1 ⟨v, rfl, ho, hb1⟩
  obtain ⟨A, c, rfl, -, -⟩ := ownsRow_form ho
  have HB1 := Lib.hid (HB0.out.trans (hb1.mono (by omega))); have HX1 := Lib.hid (HX0.out.below hb1 hsz0); have HO := Lib.hid ho
  clear hb1 ho HP HB0 HX0 HW
  have c0 := HX1.out.cell 0
  have c1 := HX1.out.cell 1
  simp only [List.getElem?_toArray, List.getElem?_cons_zero, List.getElem?_cons_succ] at c0 c1
  by_cases he : R.e = 0
  · have heI : (R.e == (0 : Int)) = true := by rw [beq_iff_eq]; exact he
    by_cases hl : R.w.length = 1
    · have hlI : ((R.w.length : Int) == 1) = true := by rw [beq_iff_eq]; omega
      have hlI2 : (0 : Int) < (R.w.length : Int) := by omega
      obtain ⟨y, hy⟩ : ∃ y, R.w = [y] := List.length_eq_one_iff.1 hl
      obtain ⟨ad, rfl, had, d0, d1⟩ := snd_cells (Reads.of_own HO.out) (i := 0) (by omega)
      have hre : r = decide (y = (x1, x2)) := by
        rw [← HRR.out, decide_eq_true he, Bool.true_and, hy]
        exact decide_eq_decide.2 ⟨fun h => by injection h, fun h => by rw [h]⟩
      have hy0 : R.w[0]'(by omega) = y := by simp [hy]
      rw [hy0] at d0 d1
      rw [← snd_ne] at hre
      obtain ⟨y1, y2⟩ := y
      simp only [] at hre d0 d1
      have z : ad.add (0 * 2) = ad := by cases ad; simp [Addr.add]
      rw [z] at d0 d1
      clear hy hy0 HRR he hlI hlI2 HO
      generalize R.w.length = n at *
      subst hl
      cases q1 : ((y1 : Int) == (x1 : Int)) <;> cases q2 : ((y2 : Int) == (x2 : Int)) <;> rw [q1, q2] at hre <;> subst hre
      all_goals
        go_wp2
        go_quiet (fail)
        go_wp2
        go_ret
        exact ⟨rfl, bdrewN' HB1.out _⟩
    · have hlI : ((R.w.length : Int) == 1) = false := by rw [beq_eq_false_iff_ne]; omega
      obtain rfl : r = false := by
        rw [← HRR.out, decide_eq_false (show ¬ R.w = [(x1, x2)] from fun h => hl (by rw [h]; rfl)), Bool.and_false]
      clear HRR
      go_wp2
      go_quiet (fail)
      go_wp2
      go_ret
      exact ⟨rfl, bdrewN' HB1.out _⟩
  · have heI : (R.e == (0 : Int)) = false := by rw [beq_eq_false_iff_ne]; exact he
    obtain rfl : r = false := by rw [← HRR.out, decide_eq_false he, Bool.false_and]
    clear HRR
    go_wp2
    go_quiet (fail)
    go_wp2
    go_ret
    exact ⟨rfl, bdrewN' HB1.out _⟩
set_option maxRecDepth 20000 in
set_option maxHeartbeats 2000000 in
theorem rsame_any (a b : ByteArray) {Ra Rb : Rs} (hpa : ∀ W, Below w.heap.size w W → Calls Tryz.prog 15 #[wptr g, .string a] W (ParsePost W Ra))
    (hpb : ∀ W, Below w.heap.size w W → Calls Tryz.prog 15 #[wptr g, .string b] W (ParsePost W Rb)) :
    Calls Tryz.prog 23 #[wptr g, .string a, .string b] w fun e w' => e = .returned (.bool (decide (Ra.e = 0) && (decide (Rb.e = 0) && decide (Ra.w = Rb.w)))) ∧ Below w.heap.size w w' := by
  obtain ⟨r, hr⟩ : ∃ r, (decide (Ra.e = 0) && (decide (Rb.e = 0) && decide (Ra.w = Rb.w))) = r := ⟨_, rfl⟩
  rw [hr]
  have HRR := Lib.hid hr
  have HPA := Lib.hid (hpa w (Below.refl _ _)); have HPB := Lib.hid hpb
  clear hr hpa hpb
  go_enter Tryz.func23, Tryz.ntmps23
  go_wp2_with fail
  refine HPA.out.mono ?_
  rintro e w1 ⟨v1, rfl, ho1, hb1⟩
  obtain ⟨A1, c1, rfl, hc1, hm1⟩ := ownsRow_form ho1
  have HP := Lib.hid (HPB.out w1 hb1); have HO1 := Lib.hid ho1; have HB1 := Lib.hid hb1
  clear ho1 hb1 HPA HPB
  go_wp2_with fail
  refine HP.out.mono ?_
  rintro e w2 ⟨v2, rfl, ho2, hb2⟩
  obtain ⟨A2, c2, rfl, hc2, hm2⟩ := ownsRow_form ho2
  have hr1 := Reads.of_own (own_below HO1.out hb2)
  have hr2 := Reads.of_own ho2
  have hq := refEqual_any A1 A2 Ra.w.length Rb.w.length c1 c2 w2.heap.size Ra.w Rb.w w2 hr1 hr2 (Nat.le_refl _) (by omega)
  have HQ := Lib.hid hq; have HB2 := Lib.hid (HB1.out.trans (hb2.mono HB1.out.size))
  clear ho2 hb2 hr1 hr2 hq HP HO1
  by_cases ha : Ra.e = 0
  · have haI : (Ra.e == (0 : Int)) = true := by rw [beq_iff_eq]; exact ha
    by_cases hb : Rb.e = 0
    · have hbI : (Rb.e == (0 : Int)) = true := by rw [beq_iff_eq]; exact hb
      have hr : r = decide (Ra.w = Rb.w) := by rw [← HRR.out, decide_eq_true ha, decide_eq_true hb]; rfl
      have HR := Lib.hid hr
      clear HRR hr
      go_wp2_with fail
      refine HQ.out.mono ?_
      rw [← HR.out]
      rintro e w3 ⟨rfl, -, hb3⟩
      have HB3 := Lib.hid (HB2.out.trans (hb3.mono HB2.out.size))
      clear hb3 HQ HR
      go_wp2
      go_ret
      exact ⟨rfl, HB3.out⟩
    · have hbI : (Rb.e == (0 : Int)) = false := by rw [beq_eq_false_iff_ne]; exact hb
      obtain rfl : r = false := by rw [← HRR.out, decide_eq_false hb, Bool.false_and, Bool.and_false]
      clear HRR HQ
      go_wp2
      go_ret
      exact ⟨rfl, HB2.out⟩
  · have haI : (Ra.e == (0 : Int)) = false := by rw [beq_eq_false_iff_ne]; exact ha
    obtain rfl : r = false := by rw [← HRR.out, decide_eq_false ha, Bool.false_and]
    clear HRR HQ
    go_wp2
    go_ret
    exact ⟨rfl, HB2.out⟩
def RPrintPost (w : World) (o : List UInt8 × Int) (e : Ending) (w' : World) : Prop := e = .returned (.tuple #[.string (asB o.1), .int .i64 o.2]) ∧ Below w.heap.size w w'
set_option maxRecDepth 20000 in
set_option maxHeartbeats 2000000 in
theorem rnormal_any (s : ByteArray) (hR : readR L ms (bs s) = R) (hp : Calls Tryz.prog 15 #[wptr g, .string s] w (ParsePost w R))
    (hpr : ∀ (W : World) (A : Option Addr) (n c : Nat), Below w.heap.size w W → Reads W W.heap.size 2 A n (R.w.flatMap sndC) → n ≤ c ∧ c ≤ maxLen → Calls Tryz.prog 11 #[wptr g, .slice A n c] W (RPrintPost W (printR L ms R.w))) :
    Calls Tryz.prog 21 #[wptr g, .string s] w (RPrintPost w (normalR L ms (bs s))) := by
  obtain ⟨o, ho⟩ : ∃ o, normalR L ms (bs s) = o := ⟨_, rfl⟩
  rw [ho]
  unfold normalR at ho
  rw [hR] at ho
  have HO := Lib.hid ho
  have HP := Lib.hid hp; have HPR := Lib.hid hpr
  clear ho hp hpr hR
  go_enter Tryz.func21, Tryz.ntmps21
  go_wp2_with fail
  refine HP.out.mono ?_
  rintro e w1 ⟨v1, rfl, ho1, hb1⟩
  obtain ⟨A1, c1, rfl, hc1, hm1⟩ := ownsRow_form ho1
  have hq := HPR.out w1 A1 R.w.length c1 hb1 (Reads.of_own ho1) ⟨hc1, hm1⟩
  have HQ := Lib.hid hq; have HB1 := Lib.hid hb1
  clear hq ho1 hb1 HP HPR
  by_cases he : R.e = 0
  · have heI : (R.e != (0 : Int)) = false := by rw [bne_eq_false_iff_eq]; exact he
    have hoo : printR L ms R.w = o := by rw [← HO.out, if_pos he]
    rw [hoo] at HQ
    clear HO hoo
    go_wp2_with fail
    refine HQ.out.mono ?_
    rintro e w3 ⟨rfl, hb3⟩
    have HB3 := Lib.hid (HB1.out.trans (hb3.mono HB1.out.size))
    clear hb3 HQ
    go_wp2
    go_ret2
    exact ⟨rfl, HB3.out⟩
  · have heI : (R.e != (0 : Int)) = true := by rw [bne_iff_ne]; exact he
    obtain rfl : o = ([], R.e) := by rw [← HO.out, if_neg he]
    clear HO HQ
    go_wp2
    go_ret2
    exact ⟨rfl, HB1.out⟩
end
end Go.Proofs.YtohggdfplmlinaaGreatDoor
namespace Go.Proofs.YtohggdfplmlinaaGreatDoor

/-- A text that is no worse than another one. -/
def noWorse (r t : List UInt8) : Prop := r.length < t.length ∨ (r.length = t.length ∧ ¬ t < r)
theorem noWorse_refl (r : List UInt8) : noWorse r r := .inr ⟨rfl, List.lt_irrefl r⟩
theorem noWorse_trans {a b c : List UInt8} (h1 : noWorse a b) (h2 : noWorse b c) : noWorse a c := by
  rcases h1 with h1 | ⟨h1, h1'⟩
  · rcases h2 with h2 | ⟨h2, -⟩
    · exact .inl (by omega)
    · exact .inl (by omega)
  · rcases h2 with h2 | ⟨h2, h2'⟩
    · exact .inl (by omega)
    · refine .inr ⟨by omega, ?_⟩
      have e1 : a ≤ b := h1'
      have e2 : b ≤ c := h2'
      exact (List.le_trans e1 e2 : a ≤ c)
theorem noWorse_antisymm {a b : List UInt8} (h1 : noWorse a b) (h2 : noWorse b a) : a = b := by
  rcases h1 with h1 | ⟨h1, h1'⟩
  · rcases h2 with h2 | ⟨h2, -⟩ <;> omega
  · rcases h2 with h2 | ⟨-, h2'⟩
    · omega
    · exact List.le_antisymm (show a ≤ b from h1') (show b ≤ a from h2')
theorem better_true {b t : List UInt8} (h : better b t = true) (hb : b ≠ []) : noWorse t b := by
  unfold better at h
  simp only [Bool.or_eq_true, Bool.and_eq_true, decide_eq_true_eq] at h
  rcases h with (h | h) | ⟨h1, h2⟩
  · exact absurd h hb
  · exact .inl h
  · exact .inr ⟨h1, fun h => List.lt_irrefl b (List.lt_trans h h2)⟩
theorem better_false {b t : List UInt8} (h : better b t = false) : b ≠ [] ∧ noWorse b t := by
  unfold better at h
  simp only [Bool.or_eq_false_iff, Bool.and_eq_false_imp, decide_eq_false_iff_not, decide_eq_true_eq] at h
  obtain ⟨⟨h1, h2⟩, h3⟩ := h
  refine ⟨h1, ?_⟩
  by_cases e : t.length = b.length
  · exact .inr ⟨e.symm, h3 e⟩
  · exact .inl (by omega)
theorem isOne_ne {L : List Nam} {ms : List Mk} {s : Snd} {t : List UInt8} (h : isOne L ms s t = true) : t ≠ [] := fun e => by
  subst e
  unfold isOne at h
  have hr : readR L ms [] = ⟨[], [], 0, 0⟩ := rfl
  rw [hr] at h
  simp at h
/-- What the best of some texts is. -/
def IsBest (L : List Nam) (ms : List Mk) (s : Snd) (xs : List (List UInt8)) (r : List UInt8) : Prop :=
  (r = [] ∧ ∀ t ∈ xs, isOne L ms s t = false) ∨ (r ∈ xs ∧ isOne L ms s r = true ∧ ∀ t ∈ xs, isOne L ms s t = true → noWorse r t)
theorem isBest_next {L : List Nam} {ms : List Mk} {s : Snd} {xs : List (List UInt8)} {r t : List UInt8} (h : IsBest L ms s xs r) : IsBest L ms s (xs ++ [t]) (tryS L ms s r t) := by
  unfold tryS
  cases h1 : isOne L ms s t with
  | false =>
    rw [Bool.and_false, if_neg (by decide)]
    rcases h with ⟨h2, h3⟩ | ⟨h2, h3, h4⟩
    · refine .inl ⟨h2, fun u hu => ?_⟩
      rcases List.mem_append.1 hu with hu | hu
      · exact h3 u hu
      · rw [List.mem_singleton.1 hu]; exact h1
    · refine .inr ⟨List.mem_append_left _ h2, h3, fun u hu hu1 => ?_⟩
      rcases List.mem_append.1 hu with hu | hu
      · exact h4 u hu hu1
      · rw [List.mem_singleton.1 hu, h1] at hu1; cases hu1
  | true =>
    rw [Bool.and_true]
    cases hb : better r t with
    | true =>
      rw [if_pos rfl]
      refine .inr ⟨List.mem_append_right _ (List.mem_singleton.2 rfl), h1, fun u hu hu1 => ?_⟩
      rcases List.mem_append.1 hu with hu | hu
      · rcases h with ⟨h2, h3⟩ | ⟨h2, h3, h4⟩
        · rw [h3 u hu] at hu1; cases hu1
        · exact noWorse_trans (better_true hb (isOne_ne h3)) (h4 u hu hu1)
      · rw [List.mem_singleton.1 hu]; exact noWorse_refl t
    | false =>
      rw [if_neg (by decide)]
      obtain ⟨hr, hw⟩ := better_false hb
      rcases h with ⟨h2, h3⟩ | ⟨h2, h3, h4⟩
      · exact absurd h2 hr
      · refine .inr ⟨List.mem_append_left _ h2, h3, fun u hu hu1 => ?_⟩
        rcases List.mem_append.1 hu with hu | hu
        · exact h4 u hu hu1
        · rw [List.mem_singleton.1 hu]; exact hw
theorem isBest_fold (L : List Nam) (ms : List Mk) (s : Snd) (ys : List (List UInt8)) : ∀ (xs : List (List UInt8)) (r : List UInt8), IsBest L ms s xs r → IsBest L ms s (xs ++ ys) (ys.foldl (tryS L ms s) r) := by
  induction ys with
  | nil => intro xs r h; rw [List.append_nil]; exact h
  | cons t ys ih =>
    intro xs r h
    have := ih _ _ (isBest_next (t := t) h)
    rw [List.append_assoc] at this
    exact this
theorem isBest_all (L : List Nam) (ms : List Mk) (s : Snd) (ys : List (List UInt8)) : IsBest L ms s ys (ys.foldl (tryS L ms s) []) := isBest_fold L ms s ys [] [] (.inl ⟨rfl, fun t h => by cases h⟩)
theorem isBest_uniq {L : List Nam} {ms : List Mk} {s : Snd} {xs ys : List (List UInt8)} {r q : List UInt8} (h : ∀ t, t ∈ xs ↔ t ∈ ys) (hr : IsBest L ms s xs r) (hq : IsBest L ms s ys q) : r = q := by
  rcases hr with ⟨r1, r2⟩ | ⟨r1, r2, r3⟩
  · rcases hq with ⟨q1, -⟩ | ⟨q1, q2, -⟩
    · rw [r1, q1]
    · rw [r2 q ((h q).2 q1)] at q2; cases q2
  · rcases hq with ⟨-, q2⟩ | ⟨q1, q2, q3⟩
    · rw [q2 r ((h r).1 r1)] at r2; cases r2
    · exact noWorse_antisymm (r3 q ((h q).2 q1) q2) (q3 r ((h r).1 r1) r2)
/-- The best text of a sound, by any order of trial. -/
theorem bestS_any {L : List Nam} {ms : List Mk} {s : Snd} {ys : List (List UInt8)} (h : ∀ t, t ∈ cands L ms ↔ t ∈ ys) : ys.foldl (tryS L ms s) [] = bestS L ms s :=
  (isBest_uniq h (isBest_all L ms s _) (isBest_all L ms s ys)).symm
/-- The texts that the reference tries of a symbol: no first mark or one, no second mark or one. -/
def rcands1 (ms : List Mk) (sym : List UInt8) : List (List UInt8) := (sym :: ms.map fun b => sym ++ bs b.text) ++ ms.flatMap fun a => (sym ++ bs a.text) :: ms.map fun b => sym ++ bs a.text ++ bs b.text
theorem rcands1_mem {ms : List Mk} {sym t : List UInt8} : t ∈ cands1 ms sym ↔ t ∈ rcands1 ms sym := by
  unfold cands1 rcands1
  constructor
  · intro h
    rcases List.mem_cons.1 h with h | h
    · rw [h]; simp
    · exact List.mem_append_right _ h
  · intro h
    rcases List.mem_append.1 h with h | h
    · rcases List.mem_cons.1 h with h | h
      · rw [h]; simp
      · obtain ⟨b, hb, rfl⟩ := List.mem_map.1 h
        exact List.mem_cons_of_mem _ (List.mem_flatMap.2 ⟨b, hb, List.mem_cons_self ..⟩)
    · exact List.mem_cons_of_mem _ h
theorem rbest {L : List Nam} {ms : List Mk} {s : Snd} : (L.flatMap fun x => rcands1 ms (bs x.1)).foldl (tryS L ms s) [] = bestS L ms s :=
  bestS_any fun t => by
    unfold cands
    simp only [List.mem_flatMap]
    exact ⟨fun ⟨x, hx, h⟩ => ⟨x, hx, rcands1_mem.1 h⟩, fun ⟨x, hx, h⟩ => ⟨x, hx, rcands1_mem.2 h⟩⟩
end Go.Proofs.YtohggdfplmlinaaGreatDoor
