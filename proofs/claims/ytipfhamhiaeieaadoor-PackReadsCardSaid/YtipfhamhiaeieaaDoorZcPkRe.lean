/-
  layer 43: the reader's count, int, sound, flag, text, and its lists of sounds. Conditions: bytes that can be read.
-/
import Derived.Test.YtipfhamhiaeieaaDoorZcae
namespace Go.Proofs.YtipfhamhiaeieaaDoor
open Go.RowKit Go.Lib

theorem Rd.bytes {w : World} {g : Nat} {bs : List Nat} (h : Rd w g bs) : bs.length ≤ 1073741824 := by
  obtain ⟨A, c, h1, h2, h3, h4, h6, h5⟩ := h; exact h6
theorem Rd.lenCell {w : World} {g : Nat} {bs : List Nat} (h : Rd w g bs) : ∃ A c, w.cell? ⟨g, 0, none⟩ = some (.slice A bs.length c) := by
  obtain ⟨A, c, h1, _⟩ := h
  exact ⟨A, c, by simpa using h1.cell 0⟩
theorem readN_lt {bs r : List Nat} {n : Nat} (h : readN bs = some (n, r)) (hb : ∀ b ∈ bs, b < 256) : n < 4294967296 := (readN_bytes hb h).2
theorem Rd.all {w : World} {g : Nat} {bs : List Nat} (h : Rd w g bs) : ∀ b ∈ bs, b < 256 := by
  obtain ⟨A, c, h1, h2, h3, h4, h6, h5⟩ := h; exact h5
def numV (n : Nat) (_ : World) (v : Value) : Prop := v = .int .u32 n
def intV (n : Nat) (_ : World) (v : Value) : Prop := v = .int .i64 n
theorem rnum_some {w : World} {g n : Nat} {bs r : List Nat} (h : Rd w g bs) (hr : readN bs = some (n, r)) :
    Calls Tryd.prog 76 #[wptr g] w fun e w' => e = .returned (.int .u32 n) ∧ Rd w' g r ∧ Chg [g] w w' := by
  have := rnum_any w g bs h
  rw [hr] at this
  exact this.mono fun e w' ⟨h1, v, h2, h3, h4⟩ => ⟨by rw [h2, h3], h4, h1⟩
theorem rnum_none {w : World} {g : Nat} {bs : List Nat} (h : Rd w g bs) (hr : readN bs = none) :
    Calls Tryd.prog 76 #[wptr g] w fun e w' => e = .panicked MAL ∧ Chg [g] w w' := by
  have := rnum_any w g bs h
  rw [hr] at this
  exact this.mono fun e w' ⟨h1, h2⟩ => ⟨h2, h1⟩
set_option maxRecDepth 20000 in
theorem rcount_any (w : World) (g : Nat) (bs : List Nat) (h : Rd w g bs) :
    Calls Tryd.prog 75 #[wptr g] w (RdPost g intV w (countR bs)) := by
  cases hr : readN bs with
  | none =>
    have hc := rnum_none h hr
    rw [show countR bs = none from thenR_none hr]
    clear h hr
    go_enter Tryd.func75, Tryd.ntmps75
    go_wp2_with fail
    refine hc.mono ?_
    rintro e w1 ⟨rfl, h1⟩
    exact ⟨rfl, h1, rfl⟩
  | some q =>
    obtain ⟨n, r⟩ := q
    have hc := rnum_some h hr
    have hn := readN_lt hr h.all
    rw [show countR bs = (if n ≤ r.length then some (n, r) else none) from thenR_some hr]
    clear h hr
    by_cases hle : n ≤ r.length
    · rw [if_pos hle]
      go_enter Tryd.func75, Tryd.ntmps75
      go_wp2_with fail
      refine hc.mono ?_
      rintro e w1 ⟨rfl, h1, h2⟩
      obtain ⟨A, c, h3⟩ := h1.lenCell
      have hle' : ¬ ((r.length : Int) < (n : Int)) := by omega
      have H1 := Lib.hid h1; have H2 := Lib.hid h2
      clear h1 h2 hc hle
      go_wp2
      go_ret
      exact ⟨H2.out, _, rfl, rfl, H1.out⟩
    · rw [if_neg hle]
      go_enter Tryd.func75, Tryd.ntmps75
      go_wp2_with fail
      refine hc.mono ?_
      rintro e w1 ⟨rfl, h1, h2⟩
      obtain ⟨A, c, h3⟩ := h1.lenCell
      have hle' : (r.length : Int) < (n : Int) := by omega
      have H1 := Lib.hid h1; have H2 := Lib.hid h2
      clear h1 h2 hc hle
      go_wp2
      exact ⟨rfl, H2.out, rfl⟩
theorem rint_any (w : World) (g : Nat) (bs : List Nat) (h : Rd w g bs) :
    Calls Tryd.prog 82 #[wptr g] w (RdPost g intV w (readN bs)) := by
  cases hr : readN bs with
  | none =>
    have hc := rnum_none h hr
    clear h hr
    go_enter Tryd.func82, Tryd.ntmps82
    go_wp2_with fail
    refine hc.mono ?_
    rintro e w1 ⟨rfl, h1⟩
    exact ⟨rfl, h1, rfl⟩
  | some q =>
    obtain ⟨n, r⟩ := q
    have hc := rnum_some h hr
    have hn := readN_lt hr h.all
    clear h hr
    go_enter Tryd.func82, Tryd.ntmps82
    go_wp2_with fail
    refine hc.mono ?_
    rintro e w1 ⟨rfl, h1, h2⟩
    have H1 := Lib.hid h1; have H2 := Lib.hid h2
    clear h1 h2 hc
    go_wp2
    go_ret
    exact ⟨H2.out, _, rfl, rfl, H1.out⟩
def sndW (s : Snd) (_ : World) (v : Value) : Prop := v = sndV s
set_option maxRecDepth 20000 in
set_option maxHeartbeats 1000000 in
theorem rsnd_any (w : World) (g : Nat) (bs : List Nat) (h : Rd w g bs) :
    Calls Tryd.prog 43 #[wptr g] w (RdPost g sndW w (sndR bs)) := by
  have h0 := h.alloc (.cells #[.int .u32 0, .int .u32 0] 24)
  have hB := Blk.new w 24 #[.int .u32 0, .int .u32 0]
  have hch := (Chg.refl [g] w).alloc (.cells #[.int .u32 0, .int .u32 0] 24)
  have hgl := h.lt
  have HB := Lib.hid hB; have HCH := Lib.hid hch
  clear hB hch h
  unfold sndR pairR
  cases hr : readN bs with
  | none =>
    have hc := rnum_none h0 hr
    rw [thenR_none hr]
    clear h0 hr
    go_enter Tryd.func43, Tryd.ntmps43
    go_wp2_with fail
    refine hc.mono ?_
    rintro e w1 ⟨rfl, h1⟩
    exact ⟨rfl, HCH.out.trans h1, rfl⟩
  | some q =>
    obtain ⟨n, r⟩ := q
    have hc := rnum_some h0 hr
    rw [thenR_some hr]
    cases hr2 : readN r with
    | none =>
      rw [thenR_none hr2]
      have hc2 := fun W (hW : Rd W g r) => rnum_none hW hr2
      have HC2 := Lib.hid hc2
      clear h0 hr hc2
      go_enter Tryd.func43, Tryd.ntmps43
      go_wp2_with fail
      refine hc.mono ?_
      rintro e w1 ⟨rfl, h1, h2⟩
      go_wp2_with fail
      refine (HC2.out _ h1).mono ?_
      rintro e w2 ⟨rfl, h3⟩
      exact ⟨rfl, (HCH.out.trans h2).trans h3, rfl⟩
    | some q2 =>
      obtain ⟨n2, r2⟩ := q2
      rw [thenR_some hr2]
      have hc2 := fun W (hW : Rd W g r) => rnum_some hW hr2
      have HC2 := Lib.hid hc2
      clear h0 hr hc2 hr2
      go_enter Tryd.func43, Tryd.ntmps43
      go_wp2_with fail
      refine hc.mono ?_
      rintro e w1 ⟨rfl, h1, h2⟩
      have H1 := Lib.hid h1; have H2 := Lib.hid h2
      clear h1 h2 hc
      go_wp2_with fail
      refine (HC2.out _ H1.out).mono ?_
      rintro e w2 ⟨rfl, h3, h4⟩
      have hB2 := (HB.out.chg H2.out (by simp; omega)).chg h4 (by simp; omega)
      have hx0 := hB2.cell 0
      have hx1 := hB2.cell 1
      have hf0 := hB2.frozen 0
      have hf1 := hB2.frozen 1
      simp only [List.getElem?_toArray, List.getElem?_cons_zero, List.getElem?_cons_succ] at hx0 hx1
      have H3 := Lib.hid h3; have H4 := Lib.hid h4; have HB2 := Lib.hid hB2
      clear h3 h4 hB2
      have hB3 := (HB2.out.set_ 0 (.int .u32 n)).set_ 1 (.int .u32 n2)
      have hy0 := hB3.cell 0
      have hy1 := hB3.cell 1
      simp only [List.setIfInBounds_toArray, List.set_cons_zero, List.set_cons_succ, List.getElem?_toArray, List.getElem?_cons_zero, List.getElem?_cons_succ] at hy0 hy1
      have HY0 := Lib.hid hy0; have HY1 := Lib.hid hy1
      clear hB3 hy0 hy1
      go_wp2
      refine bodyPost_ret (v := sndV (n, n2)) (by simp [results, Tryd.results43, go_sem, HY0.out, HY1.out]) rfl ⟨?_, _, rfl, rfl, ?_⟩
      · exact (((HCH.out.trans H2.out).trans H4.out).setCell (.inr (by simp)) _).setCell (.inr (by simp)) _
      · exact (H3.out.chg ((Chg.refl [w.heap.size] w2).setCell (.inl (by simp)) _) (by simpa using hgl)).chg ((Chg.refl [w.heap.size] _).setCell (.inl (by simp)) _) (by simpa using hgl)
def flagR : Rdr Bool := thenR readN fun n r => if 1 < n then none else some (decide (n = 1), r)
def flagW (b : Bool) (_ : World) (v : Value) : Prop := v = .bool b
set_option maxRecDepth 20000 in
theorem rflag_any (w : World) (g : Nat) (bs : List Nat) (h : Rd w g bs) :
    Calls Tryd.prog 109 #[wptr g] w (RdPost g flagW w (flagR bs)) := by
  unfold flagR
  cases hr : readN bs with
  | none =>
    have hc := rnum_none h hr
    rw [thenR_none hr]
    clear h hr
    go_enter Tryd.func109, Tryd.ntmps109
    go_wp2_with fail
    refine hc.mono ?_
    rintro e w1 ⟨rfl, h1⟩
    exact ⟨rfl, h1, rfl⟩
  | some q =>
    obtain ⟨n, r⟩ := q
    have hc := rnum_some h hr
    rw [thenR_some hr]
    clear h hr
    by_cases h1 : 1 < n
    · rw [if_pos h1]
      have h1I : (1 : Int) < n := by omega
      go_enter Tryd.func109, Tryd.ntmps109
      go_wp2_with fail
      refine hc.mono ?_
      rintro e w1 ⟨rfl, h2, h3⟩
      have H3 := Lib.hid h3
      clear h2 h3
      go_wp2
      exact ⟨rfl, H3.out, rfl⟩
    · rw [if_neg h1]
      have h1I : ¬ (1 : Int) < n := by omega
      by_cases h2 : n = 1
      · rw [decide_eq_true h2]
        have h2I : ((n : Int) == 1) = true := by rw [beq_iff_eq]; omega
        clear h1 h2
        go_enter Tryd.func109, Tryd.ntmps109
        go_wp2_with fail
        refine hc.mono ?_
        rintro e w1 ⟨rfl, h2, h3⟩
        have H2 := Lib.hid h2; have H3 := Lib.hid h3
        clear h2 h3
        go_wp2
        go_ret
        exact ⟨H3.out, _, rfl, rfl, H2.out⟩
      · rw [decide_eq_false h2]
        have h2I : ((n : Int) == 1) = false := by rw [beq_eq_false_iff_ne]; omega
        clear h1 h2
        go_enter Tryd.func109, Tryd.ntmps109
        go_wp2_with fail
        refine hc.mono ?_
        rintro e w1 ⟨rfl, h2, h3⟩
        have H2 := Lib.hid h2; have H3 := Lib.hid h3
        clear h2 h3
        go_wp2
        go_ret
        exact ⟨H3.out, _, rfl, rfl, H2.out⟩
/-! Lists. -/
def preO {α : Type} (xs : List α) (o : Option (List α × List Nat)) : Option (List α × List Nat) := o.map fun p => (xs ++ p.1, p.2)
theorem preO_nil {α : Type} (o : Option (List α × List Nat)) : preO [] o = o := by cases o <;> rfl
theorem preO_none {α : Type} {xs : List α} {get : Rdr α} {b : List Nat} (n : Nat) (h : get b = none) : preO xs (manyR get (n + 1) b) = none := by
  show preO xs (thenR get _ b) = none
  rw [thenR_none h]; rfl
theorem preO_some {α : Type} {xs : List α} {get : Rdr α} {b r : List Nat} {x : α} (n : Nat) (h : get b = some (x, r)) : preO xs (manyR get (n + 1) b) = preO (xs ++ [x]) (manyR get n r) := by
  show preO xs (thenR get (fun x => thenR (manyR get n) fun l r => some (x :: l, r)) b) = _
  rw [thenR_some h]
  cases h2 : manyR get n r with
  | none => rw [thenR_none h2]; rfl
  | some q => obtain ⟨l, t⟩ := q; rw [thenR_some h2]; simp [preO]
theorem rsnd_some {w : World} {g : Nat} {s : Snd} {bs r : List Nat} (h : Rd w g bs) (hr : sndR bs = some (s, r)) :
    Calls Tryd.prog 43 #[wptr g] w fun e w' => e = .returned (sndV s) ∧ Rd w' g r ∧ Chg [g] w w' := by
  have := rsnd_any w g bs h
  rw [hr] at this
  exact this.mono fun e w' ⟨h1, v, h2, h3, h4⟩ => ⟨by rw [h2, h3], h4, h1⟩
theorem rsnd_none {w : World} {g : Nat} {bs : List Nat} (h : Rd w g bs) (hr : sndR bs = none) :
    Calls Tryd.prog 43 #[wptr g] w fun e w' => e = .panicked MAL ∧ Chg [g] w w' := by
  have := rsnd_any w g bs h
  rw [hr] at this
  exact this.mono fun e w' ⟨h1, h2⟩ => ⟨h2, h1⟩
theorem rcount_some {w : World} {g n : Nat} {bs r : List Nat} (h : Rd w g bs) (hr : countR bs = some (n, r)) :
    Calls Tryd.prog 75 #[wptr g] w fun e w' => e = .returned (.int .i64 n) ∧ Rd w' g r ∧ Chg [g] w w' := by
  have := rcount_any w g bs h
  rw [hr] at this
  exact this.mono fun e w' ⟨h1, v, h2, h3, h4⟩ => ⟨by rw [h2, h3], h4, h1⟩
theorem rcount_none {w : World} {g : Nat} {bs : List Nat} (h : Rd w g bs) (hr : countR bs = none) :
    Calls Tryd.prog 75 #[wptr g] w fun e w' => e = .panicked MAL ∧ Chg [g] w w' := by
  have := rcount_any w g bs h
  rw [hr] at this
  exact this.mono fun e w' ⟨h1, h2⟩ => ⟨h2, h1⟩
theorem countR_le {bs r : List Nat} {n : Nat} (h : countR bs = some (n, r)) : n ≤ r.length := by
  unfold countR at h
  obtain ⟨m, t, h1, h2⟩ := thenR_out h
  by_cases hle : m ≤ t.length
  · rw [if_pos hle] at h2
    injection h2 with h2
    obtain ⟨rfl, rfl⟩ := Prod.mk.inj h2
    exact hle
  · rw [if_neg hle] at h2; cases h2
theorem reads_newk (w : World) (t : TypeId) (cs : List Value) (k m : Nat) (h : cs.length = m * k) : Reads (w.alloc (.cells cs.toArray t)) (w.heap.size + 1) k (some ⟨w.heap.size, 0, none⟩) m cs := by
  refine ⟨h, fun _ => ⟨_, rfl, by simp, fun j u hu => ?_⟩⟩
  rw [add_at, (Blk.new w t cs.toArray).cell j]
  simpa using hu
theorem Chg.grown {S : List Nat} {a w w' : World} {row : Option Nat} (h : Chg S a w) (hg : w.grownBy w' row) (hr : ∀ k, row = some k → a.heap.size ≤ k) : Chg S a w' :=
  ⟨hg.os.trans h.os, hg.tape.trans h.tape, hg.output.trans h.output, Nat.le_trans h.size hg.size, fun k hk hs => (hg.block k (by have := h.size; omega) (fun e => by have := hr k e.symm; omega)).trans (h.block k hk hs)⟩
theorem Rd.grown {w w' : World} {g : Nat} {bs : List Nat} {row : Option Nat} (h : Rd w g bs) (hg : w.grownBy w' row) (hr : ∀ k, row = some k → g < k) : Rd w' g bs := by
  have hl := h.lt
  cases row with
  | none => exact h.chg (S := []) ⟨hg.os, hg.tape, hg.output, hg.size, fun k hk _ => hg.block k hk (by simp)⟩ (by simp)
  | some j => exact h.chg (S := [j]) ⟨hg.os, hg.tape, hg.output, hg.size, fun k hk hs => hg.block k hk (by simpa using hs)⟩ (by simpa using hr j rfl)
/-- A row of sounds in new memory. -/
def wordW (B : Nat) (ws : List Snd) (w : World) (v : Value) : Prop := w.ownsRow B 24 2 v ws.length (ws.flatMap sndC)
theorem sndC_one (ws : List Snd) : ∀ u ∈ ws.flatMap sndC, u.oneCell' = true := fun u hu => by
  obtain ⟨r, _, hr⟩ := List.mem_flatMap.1 hu
  simp only [List.mem_cons, List.not_mem_nil, or_false] at hr
  rcases hr with rfl | rfl <;> rfl
set_option maxRecDepth 20000 in
set_option maxHeartbeats 1000000 in
theorem rsome_any (w : World) (g : Nat) (bs : List Nat) (h : Rd w g bs) :
    Calls Tryd.prog 42 #[wptr g, .func (.func 43) #[wptr g] #[]] w (RdPost g (wordW w.heap.size) w (wordR bs)) := by
  obtain ⟨i0, hi, hz0, hz1, hz2⟩ := info_parts (show (Tryd.prog.info? 24).map (fun i => (i.zero, i.size, i.bytes)) = some (some (.agg #[.int .u32 0, .int .u32 0]), 2, 8) by kernel_rfl)
  have hgl := h.lt
  unfold wordR someR
  cases hr : countR bs with
  | none =>
    have hc := rcount_none h hr
    rw [thenR_none hr]
    clear h hr
    go_enter Tryd.func42, Tryd.ntmps42
    go_wp2_with fail
    refine hc.mono ?_
    rintro e w1 ⟨rfl, h1⟩
    exact ⟨rfl, h1, rfl⟩
  | some q =>
    obtain ⟨n, r⟩ := q
    have hc := rcount_some h hr
    have hn := countR_le hr
    rw [thenR_some hr]
    obtain ⟨o, ho⟩ : ∃ o, manyR sndR n r = o := ⟨_, rfl⟩
    rw [ho]
    have HO := Lib.hid ho
    clear h hr ho
    go_enter Tryd.func42, Tryd.ntmps42
    go_wp2_with fail
    refine hc.mono ?_
    rintro e w1 ⟨rfl, h1, h2⟩
    have hn30 : n ≤ 1073741824 := Nat.le_trans hn h1.bytes
    have H1 := Lib.hid h1; have H2 := Lib.hid h2
    clear h1 h2 hc
    go_wp2
    go_loopw [5, 8] (fun v i wr => ∃ k : Nat, ∃ xs : List Snd, ∃ b : List Nat, k ≤ n ∧ i = .int .i64 k ∧ xs.length = k ∧ wr.ownsRow w.heap.size 24 2 v k (xs.flatMap sndC) ∧ preO xs (manyR sndR (n - k) b) = o ∧ Rd wr g b ∧ Chg [g] w wr) (fun _ i _ => n - (RowKit.intOf i).toNat)
    case atStart => exact ⟨0, [], r, by omega, rfl, rfl, World.ownsRow_nil _ _ _ _, by rw [preO_nil]; exact HO.out, H1.out, H2.out⟩
    case round =>
      obtain ⟨k, xs, b, hk, rfl, hxl, hown, hpre, hr, hch⟩ := hrel
      have HXL := Lib.hid hxl; have HOWN := Lib.hid hown; have HR := Lib.hid hr; have HCH := Lib.hid hch
      clear hxl hown hr hch
      by_cases hlt : k < n
      · have hkI : (k : Int) < n := by omega
        rw [show n - k = (n - (k + 1)) + 1 by omega] at hpre
        cases hs : sndR b with
        | none =>
          rw [preO_none _ hs] at hpre
          subst hpre
          have hc2 := rsnd_none HR.out hs
          clear hs
          go_wp2_with fail
          refine hc2.mono ?_
          rintro e w2 ⟨rfl, h3⟩
          exact ⟨rfl, HCH.out.trans h3, rfl⟩
        | some q =>
          obtain ⟨s, b'⟩ := q
          rw [preO_some _ hs] at hpre
          have hc2 := rsnd_some HR.out hs
          have HP := Lib.hid hpre
          clear hs hpre
          go_wp2_with fail
          refine hc2.mono ?_
          rintro e w2 ⟨rfl, h3, h4⟩
          have hown2 := own_chg HOWN.out h4 (fun j hj hm => by
            have := HOWN.out.lt j hj
            simp at hm; omega)
          have hrn := reads_newk w2 24 (sndC s) 2 1 rfl
          have H3 := Lib.hid h3; have H4 := Lib.hid h4; have HOWN2 := Lib.hid hown2; have HRN := Lib.hid hrn
          have hsz := HCH.out.size
          have hsz2 := h4.size
          clear h3 h4 hown2 hrn hc2
          go_wp2_with (at_builtin; refine wpList_append_any _ rfl _ _ 28 rfl w.heap.size 24 i0 (.agg #[.int .u32 0, .int .u32 0]) 2 8 Tryd.underlying28 hi hz0 hz1 hz2 rfl (by decide) _ _ _ rfl (HOWN2.out.alloc _) _ _ _ _ (sndC s) rfl HRN.out (by simp [Value.oneCell']) (by unfold maxLen; omega) (by omega) (by simp; omega) ?_; intro v' w3 hown' hgrow hx'; clear hx')
          have hc3 : Chg [g] w w3 := ((HCH.out.trans H4.out).alloc _).grown hgrow (fun j hj => (HOWN2.out.lt j hj).1)
          have hr3 : Rd w3 g b' := (H3.out.alloc _).grown hgrow (fun j hj => by have := (HOWN2.out.lt j hj).1; omega)
          clear hgrow
          go_roundw
          case rel => exact ⟨k + 1, xs ++ [s], b', by omega, by go_num, by rw [List.length_append, HXL.out]; rfl, by rw [List.flatMap_append]; simpa using hown', HP.out, hr3, hc3⟩
          case measure => simp [RowKit.intOf]; omega
      · obtain rfl : k = n := by omega
        go_wp2
        go_ret
        rw [Nat.sub_self] at hpre
        have e : o = some (xs, b) := by rw [← hpre]; simp [preO, manyR]
        subst e
        refine ⟨HCH.out, _, rfl, ?_, HR.out⟩
        show World.ownsRow _ _ _ _ _ xs.length _
        rw [HXL.out]; exact HOWN.out
end Go.Proofs.YtipfhamhiaeieaaDoor
