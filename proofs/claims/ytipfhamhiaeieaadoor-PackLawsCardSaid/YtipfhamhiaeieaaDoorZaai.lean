/-
  layer 43: reading that may end in a panic, caught: read at words; GetWord. Conditions: bytes that can be read.
-/
import Derived.Test.YtipfhamhiaeieaaDoorZaPkRe
import Derived.Test.YtipfhamhiaeieaaDoorZaae
import Derived.Defers
import Derived.Recover
import Derived.WalkKit
namespace Go.Proofs.YtipfhamhiaeieaaDoor
open Go.RowKit Go.Lib

/-- The panic was caught: nothing, 0, false. -/
def Caught (T : TypeId) (a b c : Nat) (zero : Array Value) (w : World) (e : Ending) (u' : FrameMode) (w' : World) : Prop :=
  e = .returned (.tuple #[]) ∧ (∃ pv, u' = .panicking [{ v := pv, recovered := true }]) ∧ Blk w' a T zero ∧ Blk w' b 3 #[.int .i64 0] ∧ Blk w' c 4 #[.bool false] ∧ Chg [a, b, c] w w'
theorem run_assert (w : World) : (Instr.typeAssert (.iface 103 (.agg #[])) 20 103 true).run Tryd.prog w = .ok (.tuple #[.agg #[], .bool true]) w := by
  kernel_rfl
def CaughtX (T : TypeId) (a b c : Nat) (zero : Array Value) (w : World) (ex : Exit) (act : Act) (w' : World) : Prop :=
  ex = .normal ∧ act.defers = [] ∧ Blk w' a T zero ∧ Blk w' b 3 #[.int .i64 0] ∧ Blk w' c 4 #[.bool false] ∧ Chg [a, b, c] w w'
theorem frame19 (a b c M : Value) : #[a, b, c] ++ ((Array.replicate 16 undef).setIfInBounds 4 M).setIfInBounds 0 M = #[a, b, c, M, undef, undef, undef, M, undef, undef, undef, undef, undef, undef, undef, undef, undef, undef, undef] := by
  apply Array.ext'
  simp [List.replicate_succ]
set_option maxRecDepth 20000 in
set_option maxHeartbeats 1000000 in
theorem catchW_mal (a b c : Nat) (x y z : Value) (w : World) (ha : Blk w a 28 #[x]) (hb : Blk w b 3 #[y]) (hc : Blk w c 4 #[z]) :
    CallsD Tryd.prog 74 #[wptr a, wptr b, wptr c] (.panicking MAL) w (Caught 28 a b c #[.slice none 0 0] w) := by
  have nab : a ≠ b := ha.ne_ hb (by decide)
  have nac : a ≠ c := ha.ne_ hc (by decide)
  have nbc : b ≠ c := hb.ne_ hc (by decide)
  have ga := ha.cell 0
  have gb := hb.cell 0
  have gc := hc.cell 0
  have fa := ha.frozen 0
  have fb := hb.frozen 0
  have fc := hc.frozen 0
  have la := ha.lt
  have lb := hb.lt
  have lc := hc.lt
  simp only [List.getElem?_toArray, List.getElem?_cons_zero] at ga gb gc
  refine callsD_of_wpS Tryd.func74 rfl fun c₀ cs hu => ?_
  apply wpS_seq
  apply wpS_region
  simp [wpOpsS, go_sem, recoverD, hu, Tryd.ntmps74, Exit.thenS]
  rw [frame19]
  refine wpS_of_wp (Code.wp_mono (Q := CaughtX 28 a b c #[.slice none 0 0] w) ?_ ?_)
  · rintro ex act w' ⟨rfl, h1, h2⟩
    exact ⟨h1, _, rfl, _, results_none rfl _ _ _, rfl, ⟨_, rfl⟩, h2⟩
  · have hta := run_assert
    have h1 := (((ha.set_ 0 (.slice none 0 0)).far (p := ⟨b, 0, none⟩) nab (.int .i64 0)).far (p := ⟨c, 0, none⟩) nac (.bool false)).alloc (.cells #[] 103)
    have h2 := (((hb.far (p := ⟨a, 0, none⟩) (Ne.symm nab) (.slice none 0 0)).set_ 0 (.int .i64 0)).far (p := ⟨c, 0, none⟩) nbc (.bool false)).alloc (.cells #[] 103)
    have h3 := (((hc.far (p := ⟨a, 0, none⟩) (Ne.symm nac) (.slice none 0 0)).far (p := ⟨b, 0, none⟩) (Ne.symm nbc) (.int .i64 0)).set_ 0 (.bool false)).alloc (.cells #[] 103)
    have h4 := ((((Chg.refl [a, b, c] w).setCell (p := ⟨a, 0, none⟩) (.inl (by simp)) (.slice none 0 0)).setCell (p := ⟨b, 0, none⟩) (.inl (by simp)) (.int .i64 0)).setCell (p := ⟨c, 0, none⟩) (.inl (by simp)) (.bool false)).alloc (.cells #[] 103)
    have H1 := Lib.hid h1; have H2 := Lib.hid h2; have H3 := Lib.hid h3; have H4 := Lib.hid h4
    clear h1 h2 h3 h4
    go_wp2
    exact ⟨rfl, rfl, by simpa using H1.out, by simpa using H2.out, by simpa using H3.out, H4.out⟩
theorem catchW_idle (a b c : Nat) (w : World) :
    CallsD Tryd.prog 74 #[wptr a, wptr b, wptr c] .returning w fun e u' w' => e = .returned (.tuple #[]) ∧ u' = .returning ∧ w = w' := by
  refine callsD_of_wpS Tryd.func74 rfl fun c₀ cs hu => ?_
  apply wpS_seq
  apply wpS_region
  simp [wpOpsS, go_sem, recoverD, hu, Tryd.ntmps74, Exit.thenS]
  rw [frame19]
  refine wpS_of_wp (Code.wp_mono (Q := fun ex act w' => ex = .normal ∧ act.defers = [] ∧ w = w') ?_ ?_)
  · rintro ex act w' ⟨rfl, h1, rfl⟩
    cases c₀
    simp only at hu
    subst hu
    exact ⟨h1, _, rfl, _, results_none rfl _ _ _, rfl, rfl, rfl⟩
  · go_wp2
theorem getw1_any (w : World) (g : Nat) (bs : List Nat) (h : Rd w g bs) :
    Calls Tryd.prog 41 #[wptr g] w (RdPost g (wordW w.heap.size) w (wordR bs)) := by
  have hc := rsome_any w g bs h
  clear h
  cases hw : wordR bs with
  | none =>
    rw [hw] at hc
    go_enter Tryd.func41, Tryd.ntmps41
    go_wp2_with fail
    refine hc.mono ?_
    rintro e w1 ⟨h1, rfl⟩
    exact ⟨rfl, h1, rfl⟩
  | some q =>
    obtain ⟨ws, r⟩ := q
    rw [hw] at hc
    go_enter Tryd.func41, Tryd.ntmps41
    go_wp2_with fail
    refine hc.mono ?_
    rintro e w1 ⟨h1, v, rfl, h2, h3⟩
    have H1 := Lib.hid h1; have H2 := Lib.hid h2; have H3 := Lib.hid h3
    clear h1 h2 h3
    go_wp2
    go_ret
    exact ⟨H1.out, _, rfl, H2.out, H3.out⟩
/-- What read returns: a value, how many bytes are left, true; or a zero value, 0, false. -/
def ReadPost {α : Type} (val : α → World → Value → Prop) (zero : Value) (w : World) (o : Option (α × List Nat)) (e : Ending) (w' : World) : Prop :=
  Below w.heap.size w w' ∧ match o with
    | some (x, r) => ∃ v, e = .returned (.tuple #[v, .int .i64 r.length, .bool true]) ∧ val x w' v
    | none => e = .returned (.tuple #[zero, .int .i64 0, .bool false])
set_option maxRecDepth 20000 in
set_option maxHeartbeats 2000000 in
theorem readW_any (w : World) (A : Option Addr) (n c B : Nat) (bs : List Nat) (hr : Reads w B 1 A n (bs.map bv)) (hB : B ≤ w.heap.size) (hn : n ≤ c) (hc : c ≤ maxLen) (hs : n ≤ 1073741824) (hb : ∀ b ∈ bs, b < 256) :
    Calls Tryd.prog 40 #[.slice A n c, .func (.func 41) #[] #[]] w (ReadPost (wordW w.heap.size) (.slice none 0 0) w (wordR bs)) := by
  have hmf : ∀ (fn : Fn) (first cap : Array Value) (w : World), (Instr.makeFunc fn first cap).run Tryd.prog w = .ok (.func fn first cap) w := fun _ _ _ _ => rfl
  have hbl : bs.length = n := by have := hr.1; simpa using this
  obtain ⟨w0, hw0⟩ : ∃ w0, (((w.alloc (.cells #[.slice none 0 0] 28)).alloc (.cells #[.int .i64 0] 3)).alloc (.cells #[.bool false] 4)).alloc (.cells #[.slice A n c] 106) = w0 := ⟨_, rfl⟩
  have hsz : w0.heap.size = w.heap.size + 4 := by rw [← hw0]; simp
  have hB0 : Below w.heap.size w w0 := by
    rw [← hw0]
    exact ((((Below.refl _ w).alloc (Nat.le_refl _) _).alloc (by simp) _).alloc (by simp; omega) _).alloc (by simp; omega) _
  have ha : Blk w0 w.heap.size 28 #[.slice none 0 0] := by
    rw [← hw0]
    exact (((Blk.new w _ _).alloc _).alloc _).alloc _
  have hb1 : Blk w0 (w.heap.size + 1) 3 #[.int .i64 0] := by
    rw [← hw0]
    exact ((by simpa using Blk.new (w.alloc (.cells #[.slice none 0 0] 28)) 3 #[.int .i64 0] : Blk _ (w.heap.size + 1) _ _).alloc _).alloc _
  have hc1 : Blk w0 (w.heap.size + 2) 4 #[.bool false] := by
    rw [← hw0]
    exact (by simpa using Blk.new ((w.alloc (.cells #[.slice none 0 0] 28)).alloc (.cells #[.int .i64 0] 3)) 4 #[.bool false] : Blk _ (w.heap.size + 2) _ _).alloc _
  have hd1 : Blk w0 (w.heap.size + 3) 106 #[.slice A n c] := by
    rw [← hw0]
    simpa using Blk.new (((w.alloc (.cells #[.slice none 0 0] 28)).alloc (.cells #[.int .i64 0] 3)).alloc (.cells #[.bool false] 4)) 106 #[.slice A n c]
  have hrd : Rd w0 (w.heap.size + 3) bs := by
    refine ⟨A, c, by rw [hbl]; exact hd1, ?_, by omega, hc, by omega, hb⟩
    rw [hbl]
    exact (hr.below (hB0.mono hB)).more (by omega)
  have hg := getw1_any w0 (w.heap.size + 3) bs hrd
  have HW0 := Lib.hid hw0; have HA := Lib.hid ha; have HB1 := Lib.hid hb1; have HC1 := Lib.hid hc1; have HB0 := Lib.hid hB0
  clear hr hrd ha hb1 hc1 hd1 hb hB0
  cases hw : wordR bs with
  | none =>
    rw [hw] at hg
    have HG := Lib.hid hg
    clear hw0 hg
    go_enter_defers Tryd.func40, Tryd.ntmps40
    go_wp2_with fail
    rw [HW0.out]
    refine HG.out.mono ?_
    rintro e w1 ⟨h1, rfl⟩
    have hni : ∀ i, i < 3 → w.heap.size + i ∉ [w.heap.size + 3] := fun i hi hm => by simp at hm; omega
    refine leaves_cons (f := 74) (args := #[wptr w.heap.size, wptr (w.heap.size + 1), wptr (w.heap.size + 2)]) (by simp) (by simp [go_sem]) ?_
    refine (catchW_mal w.heap.size (w.heap.size + 1) (w.heap.size + 2) _ _ _ w1 (HA.out.chg h1 (hni 0 (by omega))) (HB1.out.chg h1 (hni 1 (by omega))) (HC1.out.chg h1 (hni 2 (by omega)))).mono ?_
    rintro e u' w2 ⟨rfl, ⟨pv, rfl⟩, k1, k2, k3, k4⟩
    have c1 := k1.cell 0
    have c2 := k2.cell 0
    have c3 := k3.cell 0
    simp only [List.getElem?_toArray, List.getElem?_cons_zero] at c1 c2 c3
    have hbel : Below w.heap.size w w2 := by
      refine (HB0.out.trans (h1.below (by simp) (by omega))).trans (k4.below (by simp) ?_)
      have := h1.size; omega
    simp [Leaves, settle, results, Tryd.results40, go_sem, c1, c2, c3]
    exact ⟨hbel, rfl⟩
  | some q =>
    obtain ⟨ws, r⟩ := q
    rw [hw] at hg
    have HG := Lib.hid hg
    clear hw0 hg
    go_enter_defers Tryd.func40, Tryd.ntmps40
    go_wp2_with fail
    rw [HW0.out]
    refine HG.out.mono ?_
    rintro e w1 ⟨h1, v, rfl, h2, h3⟩
    obtain ⟨A2, c2, rfl, _, _⟩ := ownsRow_form h2
    have hni : ∀ i, i < 3 → w.heap.size + i ∉ [w.heap.size + 3] := fun i hi hm => by simp at hm; omega
    have hs1 := h1.size
    have ka : Blk (w1.setCell ⟨w.heap.size, 0, none⟩ (.slice A2 ws.length c2)) w.heap.size 28 #[.slice A2 ws.length c2] := by simpa using (HA.out.chg h1 (hni 0 (by omega))).set_ 0 (.slice A2 ws.length c2)
    have kb : Blk (w1.setCell ⟨w.heap.size, 0, none⟩ (.slice A2 ws.length c2)) (w.heap.size + 1) 3 #[.int .i64 0] := (HB1.out.chg h1 (hni 1 (by omega))).far (p := ⟨w.heap.size, 0, none⟩) (by simp) _
    have kc : Blk (w1.setCell ⟨w.heap.size, 0, none⟩ (.slice A2 ws.length c2)) (w.heap.size + 1 + 1) 4 #[.bool false] := (HC1.out.chg h1 (hni 2 (by omega))).far (p := ⟨w.heap.size, 0, none⟩) (by simp) _
    obtain ⟨A3, c3, k1, k2, k3⟩ := h3
    have kd : Blk (w1.setCell ⟨w.heap.size, 0, none⟩ (.slice A2 ws.length c2)) (w.heap.size + 1 + 1 + 1) 106 #[.slice A3 r.length c3] := k1.far (p := ⟨w.heap.size, 0, none⟩) (by simp) _
    have kw : (w1.setCell ⟨w.heap.size, 0, none⟩ (.slice A2 ws.length c2)).ownsRow w0.heap.size 24 2 (.slice A2 ws.length c2) ws.length (ws.flatMap sndC) := ownsRow_setCell_below h2 (by simp; omega) _
    have kz : Below w.heap.size w (w1.setCell ⟨w.heap.size, 0, none⟩ (.slice A2 ws.length c2)) := (HB0.out.trans (h1.below (by simp) (by omega))).setCell (Nat.le_refl _) _
    have ca1 := (HA.out.chg h1 (hni 0 (by omega))).cell 0
    have fa1 := (HA.out.chg h1 (hni 0 (by omega))).frozen 0
    simp only [List.getElem?_toArray, List.getElem?_cons_zero] at ca1
    have KA := Lib.hid ka; have KB := Lib.hid kb; have KC := Lib.hid kc; have KD := Lib.hid kd; have KW := Lib.hid kw; have KZ := Lib.hid kz
    clear h1 h2 k1 k2 k3 ka kb kc kd kw kz hni hmf HW0 HA HB1 HC1 hs1
    go_wp2
    generalize w1.setCell ⟨w.heap.size, 0, none⟩ (.slice A2 ws.length c2) = w2 at *
    have g1 := KA.out.cell 0
    have g2 := KB.out.cell 0
    have g3 := KC.out.cell 0
    have g4 := KD.out.cell 0
    have f1 := KA.out.frozen 0
    have f2 := KB.out.frozen 0
    have f3 := KC.out.frozen 0
    simp only [List.getElem?_toArray, List.getElem?_cons_zero] at g1 g2 g3 g4
    clear ca1 fa1 hw
    have j1 : Blk (((w2.setCell ⟨w.heap.size, 0, none⟩ (.slice A2 ws.length c2)).setCell ⟨w.heap.size + 1, 0, none⟩ (.int .i64 r.length)).setCell ⟨w.heap.size + 1 + 1, 0, none⟩ (.bool true)) w.heap.size 28 #[.slice A2 ws.length c2] := by
      simpa using ((KA.out.set_ 0 (.slice A2 ws.length c2)).far (p := ⟨w.heap.size + 1, 0, none⟩) (by simp) (.int .i64 r.length)).far (p := ⟨w.heap.size + 1 + 1, 0, none⟩) (by simp; omega) (.bool true)
    have j2 : Blk (((w2.setCell ⟨w.heap.size, 0, none⟩ (.slice A2 ws.length c2)).setCell ⟨w.heap.size + 1, 0, none⟩ (.int .i64 r.length)).setCell ⟨w.heap.size + 1 + 1, 0, none⟩ (.bool true)) (w.heap.size + 1) 3 #[.int .i64 r.length] := by
      simpa using ((KB.out.far (p := ⟨w.heap.size, 0, none⟩) (by simp) (.slice A2 ws.length c2)).set_ 0 (.int .i64 r.length)).far (p := ⟨w.heap.size + 1 + 1, 0, none⟩) (by simp) (.bool true)
    have j3 : Blk (((w2.setCell ⟨w.heap.size, 0, none⟩ (.slice A2 ws.length c2)).setCell ⟨w.heap.size + 1, 0, none⟩ (.int .i64 r.length)).setCell ⟨w.heap.size + 1 + 1, 0, none⟩ (.bool true)) (w.heap.size + 1 + 1) 4 #[.bool true] := by
      simpa using ((KC.out.far (p := ⟨w.heap.size, 0, none⟩) (by simp; omega) (.slice A2 ws.length c2)).far (p := ⟨w.heap.size + 1, 0, none⟩) (by simp) (.int .i64 r.length)).set_ 0 (.bool true)
    have jw := ownsRow_setCell_below (ownsRow_setCell_below (ownsRow_setCell_below KW.out (a := ⟨w.heap.size, 0, none⟩) (by simp; omega) (.slice A2 ws.length c2)) (a := ⟨w.heap.size + 1, 0, none⟩) (by simp; omega) (.int .i64 r.length)) (a := ⟨w.heap.size + 1 + 1, 0, none⟩) (by simp; omega) (.bool true)
    have jb := ((KZ.out.setCell (p := ⟨w.heap.size, 0, none⟩) (Nat.le_refl _) (.slice A2 ws.length c2)).setCell (p := ⟨w.heap.size + 1, 0, none⟩) (Nat.le_succ _) (.int .i64 r.length)).setCell (p := ⟨w.heap.size + 1 + 1, 0, none⟩) (by simp; omega) (.bool true)
    have d1 := j1.cell 0
    have d2 := j2.cell 0
    have d3 := j3.cell 0
    simp only [List.getElem?_toArray, List.getElem?_cons_zero] at d1 d2 d3
    have JW := Lib.hid jw; have JB := Lib.hid jb; have D1 := Lib.hid d1; have D2 := Lib.hid d2; have D3 := Lib.hid d3
    clear j1 j2 j3 jw jb d1 d2 d3
    go_region
    go_wp2
    generalize ((w2.setCell ⟨w.heap.size, 0, none⟩ (.slice A2 ws.length c2)).setCell ⟨w.heap.size + 1, 0, none⟩ (.int .i64 r.length)).setCell ⟨w.heap.size + 1 + 1, 0, none⟩ (.bool true) = w3 at *
    refine leaves_cons (f := 74) (args := #[wptr w.heap.size, wptr (w.heap.size + 1), wptr (w.heap.size + 2)]) (by simp) (by simp [go_sem]) ?_
    refine (catchW_idle w.heap.size (w.heap.size + 1) (w.heap.size + 2) _).mono ?_
    rintro e u' w4 ⟨rfl, rfl, rfl⟩
    have E1 := D1.out
    have E2 := D2.out
    have E3 := D3.out
    simp [Leaves, settle, results, Tryd.results40, go_sem, E1, E2, E3]
    exact ⟨JB.out.drew, _, rfl, own_mono JW.out (by omega)⟩
end Go.Proofs.YtipfhamhiaeieaaDoor
namespace Go.Proofs.YtipfhamhiaeieaaDoor
open Go.RowKit Go.Lib

/-- What GetWord returns: the word, how many bytes it has, the error. -/
def getW (bs : List Nat) : List Snd × Nat × Int := match wordR bs with
  | none => ([], 0, 10)
  | some (ws, r) => if wordE ws = 0 then (ws, bs.length - r.length, 0) else ([], 0, wordE ws)
def GivesW (w : World) (x : List Snd × Nat × Int) (e : Ending) (w' : World) : Prop := ∃ v, e = .returned (.tuple #[v, .int .i64 x.2.1, .int .i64 x.2.2]) ∧ wordW w.heap.size x.1 w' v ∧ Below w.heap.size w w'
theorem wordR_ok {bs r : List Nat} {ws : List Snd} (hb : ∀ b ∈ bs, b < 256) (h : wordR bs = some (ws, r)) : r.length ≤ bs.length ∧ ∀ s ∈ ws, ok32 s := by
  obtain ⟨e, h1, h2⟩ := canon_word bs ws r hb h
  refine ⟨?_, h2⟩
  rw [e, List.length_append]; omega
set_option maxRecDepth 20000 in
set_option maxHeartbeats 2000000 in
theorem getWord_any (w : World) (A : Option Addr) (n c B : Nat) (bs : List Nat) (hr : Reads w B 1 A n (bs.map bv)) (hB : B ≤ w.heap.size) (hn : n ≤ c) (hc : c ≤ maxLen) (hs : n ≤ 1073741824) (hb : ∀ b ∈ bs, b < 256) :
    Calls Tryd.prog 23 #[.slice A n c] w (GivesW w (getW bs)) := by
  have hrd := readW_any w A n c B bs hr hB hn hc hs hb
  have hbl : bs.length = n := by have := hr.1; simpa using this
  unfold getW
  cases hw : wordR bs with
  | none =>
    rw [hw] at hrd
    clear hr hb
    go_enter Tryd.func23, Tryd.ntmps23
    go_wp2_with fail
    refine hrd.mono ?_
    rintro e w1 ⟨h1, rfl⟩
    have H1 := Lib.hid h1
    clear h1
    go_wp2
    go_ret3
    exact ⟨_, rfl, World.ownsRow_nil _ _ _ _, H1.out⟩
  | some q =>
    obtain ⟨ws, r⟩ := q
    rw [hw] at hrd
    obtain ⟨hle, hok⟩ := wordR_ok hb hw
    have hrn : r.length ≤ n := by omega
    show Calls _ _ _ _ (GivesW w (if wordE ws = 0 then (ws, bs.length - r.length, 0) else ([], 0, wordE ws)))
    rw [hbl]
    have HOK := Lib.hid hok
    clear hr hb hw hok hbl hle
    by_cases h0 : wordE ws = 0
    · rw [if_pos h0]
      have hsub : (n : Int) - (r.length : Int) = ((n - r.length : Nat) : Int) := by omega
      have HSUB := Lib.hid hsub; have H0 := Lib.hid h0
      clear hsub h0
      go_enter Tryd.func23, Tryd.ntmps23
      go_wp2_with fail
      refine hrd.mono ?_
      rintro e w1 ⟨h1, v, rfl, h2⟩
      obtain ⟨A2, c2, rfl, h3, h4⟩ := ownsRow_form h2
      have hck := wordCheck_any A2 ws.length c2 w1.heap.size ws w1 (Reads.of_own h2) (Nat.le_refl _) (by omega) HOK.out
      rw [H0.out] at hck
      have H1 := Lib.hid h1; have H2 := Lib.hid h2
      clear h1 h2
      go_wp2_with fail
      refine hck.mono ?_
      rintro e w2 ⟨rfl, h5⟩
      have H5 := Lib.hid h5
      clear h5
      unfold maxLen at hc
      go_wp2
      go_ret3
      refine ⟨_, by rw [← HSUB.out]; rfl, ?_, H1.out.trans (H5.out.mono H1.out.size)⟩
      exact own_below' H2.out H5.out
    · rw [if_neg h0]
      have hne : (wordE ws != 0) = true := by simpa using h0
      clear h0
      go_enter Tryd.func23, Tryd.ntmps23
      go_wp2_with fail
      refine hrd.mono ?_
      rintro e w1 ⟨h1, v, rfl, h2⟩
      obtain ⟨A2, c2, rfl, h3, h4⟩ := ownsRow_form h2
      have hck := wordCheck_any A2 ws.length c2 w1.heap.size ws w1 (Reads.of_own h2) (Nat.le_refl _) (by omega) HOK.out
      have H1 := Lib.hid h1; have H2 := Lib.hid h2
      clear h1 h2 HOK
      generalize wordE ws = x at *
      go_wp2_with fail
      refine hck.mono ?_
      rintro e w2 ⟨rfl, h5⟩
      have H5 := Lib.hid h5
      clear h5
      go_wp2
      go_ret3
      exact ⟨_, rfl, World.ownsRow_nil _ _ _ _, H1.out.trans (H5.out.mono H1.out.size)⟩
end Go.Proofs.YtipfhamhiaeieaaDoor
namespace Go.Proofs.YtipfhamhiaeieaaDoor

def crcP : Nat := 3988292384
def crcBit (r : Nat) : Nat := if r % 2 = 1 then (r / 2) ^^^ crcP else r / 2
def crcBits : Nat → Nat → Nat
  | 0, r => r
  | k + 1, r => crcBits k (crcBit r)
def crcByte (r c : Nat) : Nat := crcBits 8 (r ^^^ c)
def crcAll (r : Nat) (b : List Nat) : Nat := b.foldl crcByte r
def ones : Nat := 4294967295
/-- The checksum of bytes. -/
def sumB (b : List Nat) : Nat := ones ^^^ crcAll ones b
theorem crcBit_lt {r : Nat} (h : r < 4294967296) : crcBit r < 4294967296 := by
  unfold crcBit crcP
  split
  · exact Nat.xor_lt_two_pow (n := 32) (by omega) (by decide)
  · omega
theorem crcBits_lt : ∀ (k : Nat) {r : Nat}, r < 4294967296 → crcBits k r < 4294967296
  | 0, _, h => h
  | k + 1, _, h => crcBits_lt k (crcBit_lt h)
theorem crcByte_lt {r c : Nat} (h : r < 4294967296) (hc : c < 256) : crcByte r c < 4294967296 := crcBits_lt 8 (Nat.xor_lt_two_pow (n := 32) h (by omega))
theorem crcAll_lt : ∀ (b : List Nat) {r : Nat}, r < 4294967296 → (∀ c ∈ b, c < 256) → crcAll r b < 4294967296
  | [], _, h, _ => h
  | c :: b, _, h, hb => crcAll_lt b (crcByte_lt h (hb c (List.mem_cons_self ..))) (fun x hx => hb x (List.mem_cons_of_mem _ hx))
theorem xor_par (a b : Nat) : (a ^^^ b) % 2 = (a % 2 + b % 2) % 2 := by
  have h := Nat.xor_mod_two_pow (a := a) (b := b) (n := 1)
  simp only [Nat.pow_one] at h
  rw [h]
  rcases Nat.mod_two_eq_zero_or_one a with e1 | e1 <;> rcases Nat.mod_two_eq_zero_or_one b with e2 | e2 <;> rw [e1, e2] <;> rfl
theorem xor_half (a b : Nat) : (a ^^^ b) / 2 = (a / 2) ^^^ (b / 2) := by
  have h := Nat.xor_div_two_pow (a := a) (b := b) (n := 1)
  simpa using h
def crcMask (r : Nat) : Nat := if r % 2 = 1 then crcP else 0
theorem crcBit_mask (r : Nat) : crcBit r = (r / 2) ^^^ crcMask r := by
  unfold crcBit crcMask
  split <;> simp
theorem crcMask_xor (a b : Nat) : crcMask (a ^^^ b) = crcMask a ^^^ crcMask b := by
  unfold crcMask
  rw [xor_par]
  rcases Nat.mod_two_eq_zero_or_one a with e1 | e1 <;> rcases Nat.mod_two_eq_zero_or_one b with e2 | e2 <;> rw [e1, e2] <;> simp
/-- Linear. -/
theorem crcBit_xor (a b : Nat) : crcBit (a ^^^ b) = crcBit a ^^^ crcBit b := by
  rw [crcBit_mask, crcBit_mask, crcBit_mask, xor_half, crcMask_xor]
  ac_rfl
theorem crcBits_xor : ∀ (k a b : Nat), crcBits k (a ^^^ b) = crcBits k a ^^^ crcBits k b
  | 0, _, _ => rfl
  | k + 1, a, b => by
    show crcBits k (crcBit (a ^^^ b)) = _
    rw [crcBit_xor, crcBits_xor k]; rfl
theorem crcBits_double : ∀ (k a : Nat), crcBits k (a * 2 ^ k) = a
  | 0, a => by show a * 1 = a; omega
  | k + 1, a => by
    show crcBits k (crcBit (a * 2 ^ (k + 1))) = a
    have h : crcBit (a * 2 ^ (k + 1)) = a * 2 ^ k := by
      have e : a * 2 ^ (k + 1) = a * 2 ^ k * 2 := by rw [Nat.pow_succ, Nat.mul_assoc]
      unfold crcBit
      rw [e, if_neg (by omega)]; omega
    rw [h, crcBits_double k]
/-- A byte's steps by the table. -/
theorem crc_table (x : Nat) : crcBits 8 x = crcBits 8 (x % 256) ^^^ (x / 256) := by
  have h : x = (x % 256) ^^^ (x / 256 * 2 ^ 8) := by
    have h1 : (x % 256) ^^^ (x / 256 * 2 ^ 8) = x / 256 * 2 ^ 8 + x % 256 := by
      rw [Nat.xor_comm]
      have := Nat.two_pow_add_eq_or_of_lt (i := 8) (b := x % 256) (by omega) (x / 256)
      rw [Nat.mul_comm, this]
      apply Nat.eq_of_testBit_eq
      intro i
      rw [Nat.testBit_xor, Nat.testBit_or]
      by_cases hi : i < 8
      · have : Nat.testBit (2 ^ 8 * (x / 256)) i = false := by rw [Nat.testBit_two_pow_mul, decide_eq_false (by omega)]; rfl
        rw [this]; simp
      · have : Nat.testBit (x % 256) i = false := Nat.testBit_lt_two_pow (Nat.lt_of_lt_of_le (by omega) (Nat.pow_le_pow_right (by decide) (show 8 ≤ i by omega)))
        rw [this]; simp
    omega
  conv => lhs; rw [h]
  rw [crcBits_xor, crcBits_double]
/-- One step tells where it came from. -/
theorem crcBit_inj {a b : Nat} (ha : a < 4294967296) (hb : b < 4294967296) (h : crcBit a = crcBit b) : a = b := by
  have key : ∀ x, x < 4294967296 → (crcBit x).testBit 31 = decide (x % 2 = 1) := by
    intro x hx
    unfold crcBit
    have h1 : (x / 2).testBit 31 = false := Nat.testBit_lt_two_pow (by omega)
    by_cases e : x % 2 = 1
    · rw [if_pos e, Nat.testBit_xor, h1, decide_eq_true e]; decide
    · rw [if_neg e, h1, decide_eq_false e]
  have k1 := key a ha
  have k2 := key b hb
  rw [h, k2] at k1
  rw [decide_eq_decide] at k1
  unfold crcBit at h
  by_cases e : a % 2 = 1
  · rw [if_pos e, if_pos (k1.2 e)] at h
    have := congrArg (· ^^^ crcP) h
    simp only [Nat.xor_assoc, Nat.xor_self, Nat.xor_zero] at this
    have := k1.2 e
    omega
  · rw [if_neg e, if_neg (fun x => e (k1.1 x))] at h
    have := fun x => e (k1.1 x)
    omega
theorem crcBits_inj : ∀ (k : Nat) {a b : Nat}, a < 4294967296 → b < 4294967296 → crcBits k a = crcBits k b → a = b
  | 0, _, _, _, _, h => h
  | k + 1, _, _, ha, hb, h => crcBit_inj ha hb (crcBits_inj k (crcBit_lt ha) (crcBit_lt hb) h)
theorem xor_left_inj {a b c : Nat} (h : a ^^^ b = a ^^^ c) : b = c := by
  have := congrArg (a ^^^ ·) h
  simpa only [← Nat.xor_assoc, Nat.xor_self, Nat.zero_xor] using this
theorem crcByte_inj_c {r c d : Nat} (hr : r < 4294967296) (hc : c < 256) (hd : d < 256) (h : crcByte r c = crcByte r d) : c = d :=
  xor_left_inj (crcBits_inj 8 (Nat.xor_lt_two_pow (n := 32) hr (by omega)) (Nat.xor_lt_two_pow (n := 32) hr (by omega)) h)
theorem crcByte_inj_r {r s c : Nat} (hr : r < 4294967296) (hs : s < 4294967296) (hc : c < 256) (h : crcByte r c = crcByte s c) : r = s := by
  have := crcBits_inj 8 (Nat.xor_lt_two_pow (n := 32) hr (by omega)) (Nat.xor_lt_two_pow (n := 32) hs (by omega)) h
  rw [Nat.xor_comm r c, Nat.xor_comm s c] at this
  exact xor_left_inj this
theorem crcAll_inj : ∀ (b : List Nat) {r s : Nat}, r < 4294967296 → s < 4294967296 → (∀ c ∈ b, c < 256) → crcAll r b = crcAll s b → r = s
  | [], _, _, _, _, _, h => h
  | c :: b, r, s, hr, hs, hb, h => by
    have hc := hb c (List.mem_cons_self ..)
    exact crcByte_inj_r hr hs hc (crcAll_inj b (crcByte_lt hr hc) (crcByte_lt hs hc) (fun x hx => hb x (List.mem_cons_of_mem _ hx)) h)
/-- One other byte: another sum. -/
theorem sum_one (b d : List Nat) {x y : Nat} (hb : ∀ c ∈ b, c < 256) (hd : ∀ c ∈ d, c < 256) (hx : x < 256) (hy : y < 256) (hne : x ≠ y) : sumB (b ++ x :: d) ≠ sumB (b ++ y :: d) := by
  intro h
  unfold sumB at h
  have h1 := xor_left_inj h
  unfold crcAll at h1
  rw [List.foldl_append, List.foldl_append, List.foldl_cons, List.foldl_cons] at h1
  have hr : crcAll ones b < 4294967296 := crcAll_lt b (by decide) hb
  exact hne (crcByte_inj_c hr hx hy (crcAll_inj d (crcByte_lt hr hx) (crcByte_lt hr hy) hd h1))
/-- The four bytes of a number. -/
def fourB (n : Nat) : List Nat := [n % 256, n / 256 % 256, n / 65536 % 256, n / 16777216 % 256]
theorem xor_div256 (a b : Nat) : (a ^^^ b) / 256 = (a / 256) ^^^ (b / 256) := by
  have h := Nat.xor_div_two_pow (a := a) (b := b) (n := 8)
  simpa using h
theorem xor_mod256 (a b : Nat) : (a ^^^ b) % 256 = (a % 256) ^^^ (b % 256) := by
  have h := Nat.xor_mod_two_pow (a := a) (b := b) (n := 8)
  simpa using h
/-- What one byte of the sum itself does. -/
theorem crc_own {k r : Nat} : crcByte (k ^^^ r) ((r % 256) ^^^ 255) = crcBits 8 ((k % 256) ^^^ 255) ^^^ (k / 256) ^^^ (r / 256) := by
  unfold crcByte
  rw [crc_table]
  have h1 : ((k ^^^ r) ^^^ ((r % 256) ^^^ 255)) % 256 = (k % 256) ^^^ 255 := by
    rw [xor_mod256, xor_mod256, xor_mod256, Nat.mod_mod, show 255 % 256 = 255 from rfl]
    have : (k % 256 ^^^ r % 256) ^^^ (r % 256 ^^^ 255) = (k % 256) ^^^ ((r % 256 ^^^ r % 256) ^^^ 255) := by ac_rfl
    rw [this, Nat.xor_self, Nat.zero_xor]
  have h2 : ((k ^^^ r) ^^^ ((r % 256) ^^^ 255)) / 256 = (k / 256) ^^^ (r / 256) := by
    rw [xor_div256, xor_div256, xor_div256, show r % 256 / 256 = 0 by omega, show 255 / 256 = 0 from rfl]
    simp
  rw [h1, h2, Nat.xor_assoc]
theorem ones_byte (r : Nat) : (ones ^^^ r) % 256 = (r % 256) ^^^ 255 := by
  rw [xor_mod256, Nat.xor_comm]; rfl
/-- The sum of bytes and their sum. -/
theorem sum_own (b : List Nat) (hb : ∀ c ∈ b, c < 256) : sumB (b ++ fourB (sumB b)) = 558161692 := by
  obtain ⟨r, hr⟩ : ∃ r, crcAll ones b = r := ⟨_, rfl⟩
  have hlt : r < 4294967296 := hr ▸ crcAll_lt b (by decide) hb
  have hs : sumB b = ones ^^^ r := by unfold sumB; rw [hr]
  have f0 : (ones ^^^ r) % 256 = (r % 256) ^^^ 255 := ones_byte r
  have f1 : (ones ^^^ r) / 256 % 256 = (r / 256 % 256) ^^^ 255 := by rw [xor_div256, xor_mod256, Nat.xor_comm]; rfl
  have f2 : (ones ^^^ r) / 65536 % 256 = (r / 65536 % 256) ^^^ 255 := by
    rw [show 65536 = 256 * 256 from rfl, ← Nat.div_div_eq_div_mul, ← Nat.div_div_eq_div_mul, xor_div256, xor_div256, xor_mod256, Nat.xor_comm]; rfl
  have f3 : (ones ^^^ r) / 16777216 % 256 = (r / 16777216 % 256) ^^^ 255 := by
    rw [show 16777216 = 256 * 256 * 256 from rfl, ← Nat.div_div_eq_div_mul, ← Nat.div_div_eq_div_mul, ← Nat.div_div_eq_div_mul, ← Nat.div_div_eq_div_mul, xor_div256, xor_div256, xor_div256, xor_mod256, Nat.xor_comm]; rfl
  have g1 := crc_own (k := 0) (r := r)
  rw [Nat.zero_xor] at g1
  unfold sumB crcAll at hs ⊢
  rw [List.foldl_append, hs]
  unfold crcAll at hr
  rw [hr]
  unfold fourB
  rw [f0, f1, f2, f3]
  simp only [List.foldl_cons, List.foldl_nil]
  have e2 : r / 65536 = r / 256 / 256 := by omega
  have e3 : r / 16777216 = r / 256 / 256 / 256 := by omega
  rw [e2, e3, g1, crc_own, crc_own, crc_own]
  have e4 : r / 256 / 256 / 256 / 256 = 0 := by omega
  rw [e4, Nat.xor_zero]
  decide
end Go.Proofs.YtipfhamhiaeieaaDoor
