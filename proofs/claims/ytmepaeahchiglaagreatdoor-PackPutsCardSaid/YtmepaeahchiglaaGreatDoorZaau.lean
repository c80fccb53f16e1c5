/-
  layer 43: reading that may end in a panic, caught: read at words; GetWord. Conditions: bytes that can be read.
-/
import Derived.Test.YtmepaeahchiglaaGreatDoorZaai
import Derived.Test.YtmepaeahchiglaaGreatDoorZaad
import Derived.Defers
import Derived.Recover
import Derived.WalkKit
import Derived.Test.YtmepaeahchiglaaGreatDoorProg
import Derived.Test.YtmepaeahchiglaaGreatDoorZaaa
import Derived.Laws.BitsAllLaws
import Derived.Test.YtmepaeahchiglaaGreatDoorZaao
import Derived.Test.YtmepaeahchiglaaGreatDoorZaat
namespace Go.Proofs.YtmepaeahchiglaaGreatDoor
open Go.RowKit Go.Lib

/-- The panic was caught: nothing, 0, false. -/
def Caught (T : TypeId) (a b c : Nat) (zero : Array Value) (w : World) (e : Ending) (u' : FrameMode) (w' : World) : Prop :=
  e = .returned (.tuple #[]) ∧ (∃ pv, u' = .panicking [{ v := pv, recovered := true }]) ∧ Blk w' a T zero ∧ Blk w' b 3 #[.int .i64 0] ∧ Blk w' c 4 #[.bool false] ∧ Chg [a, b, c] w w'
theorem run_assert (w : World) : (Instr.typeAssert (.iface 172 (.agg #[])) 20 172 true).run Tryz.prog w = .ok (.tuple #[.agg #[], .bool true]) w := by
  kernel_rfl
def CaughtX (T : TypeId) (a b c : Nat) (zero : Array Value) (w : World) (ex : Exit) (act : Act) (w' : World) : Prop :=
  ex = .normal ∧ act.defers = [] ∧ Blk w' a T zero ∧ Blk w' b 3 #[.int .i64 0] ∧ Blk w' c 4 #[.bool false] ∧ Chg [a, b, c] w w'
theorem frame19 (a b c M : Value) : #[a, b, c] ++ ((Array.replicate 16 undef).setIfInBounds 4 M).setIfInBounds 0 M = #[a, b, c, M, undef, undef, undef, M, undef, undef, undef, undef, undef, undef, undef, undef, undef, undef, undef] := by
  apply Array.ext'
  simp [List.replicate_succ]
set_option maxRecDepth 20000 in
set_option maxHeartbeats 1000000 in
theorem catchW_mal (a b c : Nat) (x y z : Value) (w : World) (ha : Blk w a 59 #[x]) (hb : Blk w b 3 #[y]) (hc : Blk w c 4 #[z]) :
    CallsD Tryz.prog 147 #[wptr a, wptr b, wptr c] (.panicking MAL) w (Caught 59 a b c #[.slice none 0 0] w) := by
  have nab : a ≠ b := ha.ne_ hb (by decide)
  have nac : a ≠ c := ha.ne_ hc (by decide)
  have nbc : b ≠ c := hb.ne_ hc (by decide)
  have ga := ha.cell 0
  have gb := hb.cell 0
  have gc := hc.cell 0
  have fa := ha.frozen 0
  have fb := hb.frozen 0
  have fc := hc.frozen 0
  have la := ha.lt
  have lb := hb.lt
  have lc := hc.lt
  simp only [List.getElem?_toArray, List.getElem?_cons_zero] at ga gb gc
  refine callsD_of_wpS Tryz.func147 rfl fun c₀ cs hu => ?_
  apply wpS_seq
  apply wpS_region
  simp [wpOpsS, go_sem, recoverD, hu, Tryz.ntmps147, Exit.thenS]
  rw [frame19]
  refine wpS_of_wp (Code.wp_mono (Q := CaughtX 59 a b c #[.slice none 0 0] w) ?_ ?_)
  · rintro ex act w' ⟨rfl, h1, h2⟩
    exact ⟨h1, _, rfl, _, results_none rfl _ _ _, rfl, ⟨_, rfl⟩, h2⟩
  · have hta := run_assert
    have h1 := (((ha.set_ 0 (.slice none 0 0)).far (p := ⟨b, 0, none⟩) nab (.int .i64 0)).far (p := ⟨c, 0, none⟩) nac (.bool false)).alloc (.cells #[] 172)
    have h2 := (((hb.far (p := ⟨a, 0, none⟩) (Ne.symm nab) (.slice none 0 0)).set_ 0 (.int .i64 0)).far (p := ⟨c, 0, none⟩) nbc (.bool false)).alloc (.cells #[] 172)
    have h3 := (((hc.far (p := ⟨a, 0, none⟩) (Ne.symm nac) (.slice none 0 0)).far (p := ⟨b, 0, none⟩) (Ne.symm nbc) (.int .i64 0)).set_ 0 (.bool false)).alloc (.cells #[] 172)
    have h4 := ((((Chg.refl [a, b, c] w).setCell (p := ⟨a, 0, none⟩) (.inl (by simp)) (.slice none 0 0)).setCell (p := ⟨b, 0, none⟩) (.inl (by simp)) (.int .i64 0)).setCell (p := ⟨c, 0, none⟩) (.inl (by simp)) (.bool false)).alloc (.cells #[] 172)
    have H1 := Lib.hid h1; have H2 := Lib.hid h2; have H3 := Lib.hid h3; have H4 := Lib.hid h4
    clear h1 h2 h3 h4
    go_wp2
    exact ⟨rfl, rfl, by simpa using H1.out, by simpa using H2.out, by simpa using H3.out, H4.out⟩
theorem catchW_idle (a b c : Nat) (w : World) :
    CallsD Tryz.prog 147 #[wptr a, wptr b, wptr c] .returning w fun e u' w' => e = .returned (.tuple #[]) ∧ u' = .returning ∧ w = w' := by
  refine callsD_of_wpS Tryz.func147 rfl fun c₀ cs hu => ?_
  apply wpS_seq
  apply wpS_region
  simp [wpOpsS, go_sem, recoverD, hu, Tryz.ntmps147, Exit.thenS]
  rw [frame19]
  refine wpS_of_wp (Code.wp_mono (Q := fun ex act w' => ex = .normal ∧ act.defers = [] ∧ w = w') ?_ ?_)
  · rintro ex act w' ⟨rfl, h1, rfl⟩
    cases c₀
    simp only at hu
    subst hu
    exact ⟨h1, _, rfl, _, results_none rfl _ _ _, rfl, rfl, rfl⟩
  · go_wp2
theorem getw1_any (w : World) (g : Nat) (bs : List Nat) (h : Rd w g bs) :
    Calls Tryz.prog 74 #[wptr g] w (RdPost g (wordW w.heap.size) w (wordR bs)) := by
  have hc := rsome_any w g bs h
  clear h
  cases hw : wordR bs with
  | none =>
    rw [hw] at hc
    go_enter Tryz.func74, Tryz.ntmps74
    go_wp2_with fail
    refine hc.mono ?_
    rintro e w1 ⟨h1, rfl⟩
    exact ⟨rfl, h1, rfl⟩
  | some q =>
    obtain ⟨ws, r⟩ := q
    rw [hw] at hc
    go_enter Tryz.func74, Tryz.ntmps74
    go_wp2_with fail
    refine hc.mono ?_
    rintro e w1 ⟨h1, v, rfl, h2, h3⟩
    have H1 := Lib.hid h1; have H2 := Lib.hid h2; have H3 := Lib.hid h3
    clear h1 h2 h3
    go_wp2
    go_ret
    exact ⟨H1.out, _, rfl, H2.out, H3.out⟩
/-- What read returns: a value, how many bytes are left, true; or a zero value, 0, false. -/
def ReadPost {α : Type} (val : α → World → Value → Prop) (zero : Value) (w : World) (o : Option (α × List Nat)) (e : Ending) (w' : World) : Prop :=
  Below w.heap.size w w' ∧ match o with
    | some (x, r) => ∃ v, e = .returned (.tuple #[v, .int .i64 r.length, .bool true]) ∧ val x w' v
    | none => e = .returned (.tuple #[zero, .int .i64 0, .bool false])
set_option maxRecDepth 20000 in
set_option maxHeartbeats 2000000 in
theorem readW_any (w : World) (A : Option Addr) (n c B : Nat) (bs : List Nat) (hr : Reads w B 1 A n (bs.map bv)) (hB : B ≤ w.heap.size) (hn : n ≤ c) (hc : c ≤ maxLen) (hs : n ≤ 1073741824) (hb : ∀ b ∈ bs, b < 256) :
    Calls Tryz.prog 73 #[.slice A n c, .func (.func 74) #[] #[]] w (ReadPost (wordW w.heap.size) (.slice none 0 0) w (wordR bs)) := by
  have hmf : ∀ (fn : Fn) (first cap : Array Value) (w : World), (Instr.makeFunc fn first cap).run Tryz.prog w = .ok (.func fn first cap) w := fun _ _ _ _ => rfl
  have hbl : bs.length = n := by have := hr.1; simpa using this
  obtain ⟨w0, hw0⟩ : ∃ w0, (((w.alloc (.cells #[.slice none 0 0] 59)).alloc (.cells #[.int .i64 0] 3)).alloc (.cells #[.bool false] 4)).alloc (.cells #[.slice A n c] 175) = w0 := ⟨_, rfl⟩
  have hsz : w0.heap.size = w.heap.size + 4 := by rw [← hw0]; simp
  have hB0 : Below w.heap.size w w0 := by
    rw [← hw0]
    exact ((((Below.refl _ w).alloc (Nat.le_refl _) _).alloc (by simp) _).alloc (by simp; omega) _).alloc (by simp; omega) _
  have ha : Blk w0 w.heap.size 59 #[.slice none 0 0] := by
    rw [← hw0]
    exact (((Blk.new w _ _).alloc _).alloc _).alloc _
  have hb1 : Blk w0 (w.heap.size + 1) 3 #[.int .i64 0] := by
    rw [← hw0]
    exact ((by simpa using Blk.new (w.alloc (.cells #[.slice none 0 0] 59)) 3 #[.int .i64 0] : Blk _ (w.heap.size + 1) _ _).alloc _).alloc _
  have hc1 : Blk w0 (w.heap.size + 2) 4 #[.bool false] := by
    rw [← hw0]
    exact (by simpa using Blk.new ((w.alloc (.cells #[.slice none 0 0] 59)).alloc (.cells #[.int .i64 0] 3)) 4 #[.bool false] : Blk _ (w.heap.size + 2) _ _).alloc _
  have hd1 : Blk w0 (w.heap.size + 3) 175 #[.slice A n c] := by
    rw [← hw0]
    simpa using Blk.new (((w.alloc (.cells #[.slice none 0 0] 59)).alloc (.cells #[.int .i64 0] 3)).alloc (.cells #[.bool false] 4)) 175 #[.slice A n c]
  have hrd : Rd w0 (w.heap.size + 3) bs := by
    refine ⟨A, c, by rw [hbl]; exact hd1, ?_, by omega, hc, by omega, hb⟩
    rw [hbl]
    exact (hr.below (hB0.mono hB)).more (by omega)
  have hg := getw1_any w0 (w.heap.size + 3) bs hrd
  have HW0 := Lib.hid hw0; have HA := Lib.hid ha; have HB1 := Lib.hid hb1; have HC1 := Lib.hid hc1; have HB0 := Lib.hid hB0
  clear hr hrd ha hb1 hc1 hd1 hb hB0
  cases hw : wordR bs with
  | none =>
    rw [hw] at hg
    have HG := Lib.hid hg
    clear hw0 hg
    go_enter_defers Tryz.func73, Tryz.ntmps73
    go_wp2_with fail
    rw [HW0.out]
    refine HG.out.mono ?_
    rintro e w1 ⟨h1, rfl⟩
    have hni : ∀ i, i < 3 → w.heap.size + i ∉ [w.heap.size + 3] := fun i hi hm => by simp at hm; omega
    refine leaves_cons (f := 147) (args := #[wptr w.heap.size, wptr (w.heap.size + 1), wptr (w.heap.size + 2)]) (by simp) (by simp [go_sem]) ?_
    refine (catchW_mal w.heap.size (w.heap.size + 1) (w.heap.size + 2) _ _ _ w1 (HA.out.chg h1 (hni 0 (by omega))) (HB1.out.chg h1 (hni 1 (by omega))) (HC1.out.chg h1 (hni 2 (by omega)))).mono ?_
    rintro e u' w2 ⟨rfl, ⟨pv, rfl⟩, k1, k2, k3, k4⟩
    have c1 := k1.cell 0
    have c2 := k2.cell 0
    have c3 := k3.cell 0
    simp only [List.getElem?_toArray, List.getElem?_cons_zero] at c1 c2 c3
    have hbel : Below w.heap.size w w2 := by
      refine (HB0.out.trans (h1.below (by simp) (by omega))).trans (k4.below (by simp) ?_)
      have := h1.size; omega
    simp [Leaves, settle, results, Tryz.results73, go_sem, c1, c2, c3]
    exact ⟨hbel, rfl⟩
  | some q =>
    obtain ⟨ws, r⟩ := q
    rw [hw] at hg
    have HG := Lib.hid hg
    clear hw0 hg
    go_enter_defers Tryz.func73, Tryz.ntmps73
    go_wp2_with fail
    rw [HW0.out]
    refine HG.out.mono ?_
    rintro e w1 ⟨h1, v, rfl, h2, h3⟩
    obtain ⟨A2, c2, rfl, _, _⟩ := ownsRow_form h2
    have hni : ∀ i, i < 3 → w.heap.size + i ∉ [w.heap.size + 3] := fun i hi hm => by simp at hm; omega
    have hs1 := h1.size
    have ka : Blk (w1.setCell ⟨w.heap.size, 0, none⟩ (.slice A2 ws.length c2)) w.heap.size 59 #[.slice A2 ws.length c2] := by simpa using (HA.out.chg h1 (hni 0 (by omega))).set_ 0 (.slice A2 ws.length c2)
    have kb : Blk (w1.setCell ⟨w.heap.size, 0, none⟩ (.slice A2 ws.length c2)) (w.heap.size + 1) 3 #[.int .i64 0] := (HB1.out.chg h1 (hni 1 (by omega))).far (p := ⟨w.heap.size, 0, none⟩) (by simp) _
    have kc : Blk (w1.setCell ⟨w.heap.size, 0, none⟩ (.slice A2 ws.length c2)) (w.heap.size + 1 + 1) 4 #[.bool false] := (HC1.out.chg h1 (hni 2 (by omega))).far (p := ⟨w.heap.size, 0, none⟩) (by simp) _
    obtain ⟨A3, c3, k1, k2, k3⟩ := h3
    have kd : Blk (w1.setCell ⟨w.heap.size, 0, none⟩ (.slice A2 ws.length c2)) (w.heap.size + 1 + 1 + 1) 175 #[.slice A3 r.length c3] := k1.far (p := ⟨w.heap.size, 0, none⟩) (by simp) _
    have kw : (w1.setCell ⟨w.heap.size, 0, none⟩ (.slice A2 ws.length c2)).ownsRow w0.heap.size 55 2 (.slice A2 ws.length c2) ws.length (ws.flatMap sndC) := ownsRow_setCell_below h2 (by simp; omega) _
    have kz : Below w.heap.size w (w1.setCell ⟨w.heap.size, 0, none⟩ (.slice A2 ws.length c2)) := (HB0.out.trans (h1.below (by simp) (by omega))).setCell (Nat.le_refl _) _
    have ca1 := (HA.out.chg h1 (hni 0 (by omega))).cell 0
    have fa1 := (HA.out.chg h1 (hni 0 (by omega))).frozen 0
    simp only [List.getElem?_toArray, List.getElem?_cons_zero] at ca1
    have KA := Lib.hid ka; have KB := Lib.hid kb; have KC := Lib.hid kc; have KD := Lib.hid kd; have KW := Lib.hid kw; have KZ := Lib.hid kz
    clear h1 h2 k1 k2 k3 ka kb kc kd kw kz hni hmf HW0 HA HB1 HC1 hs1
    go_wp2
    generalize w1.setCell ⟨w.heap.size, 0, none⟩ (.slice A2 ws.length c2) = w2 at *
    have g1 := KA.out.cell 0
    have g2 := KB.out.cell 0
    have g3 := KC.out.cell 0
    have g4 := KD.out.cell 0
    have f1 := KA.out.frozen 0
    have f2 := KB.out.frozen 0
    have f3 := KC.out.frozen 0
    simp only [List.getElem?_toArray, List.getElem?_cons_zero] at g1 g2 g3 g4
    clear ca1 fa1 hw
    have j1 : Blk (((w2.setCell ⟨w.heap.size, 0, none⟩ (.slice A2 ws.length c2)).setCell ⟨w.heap.size + 1, 0, none⟩ (.int .i64 r.length)).setCell ⟨w.heap.size + 1 + 1, 0, none⟩ (.bool true)) w.heap.size 59 #[.slice A2 ws.length c2] := by
      simpa using ((KA.out.set_ 0 (.slice A2 ws.length c2)).far (p := ⟨w.heap.size + 1, 0, none⟩) (by simp) (.int .i64 r.length)).far (p := ⟨w.heap.size + 1 + 1, 0, none⟩) (by simp; omega) (.bool true)
    have j2 : Blk (((w2.setCell ⟨w.heap.size, 0, none⟩ (.slice A2 ws.length c2)).setCell ⟨w.heap.size + 1, 0, none⟩ (.int .i64 r.length)).setCell ⟨w.heap.size + 1 + 1, 0, none⟩ (.bool true)) (w.heap.size + 1) 3 #[.int .i64 r.length] := by
      simpa using ((KB.out.far (p := ⟨w.heap.size, 0, none⟩) (by simp) (.slice A2 ws.length c2)).set_ 0 (.int .i64 r.length)).far (p := ⟨w.heap.size + 1 + 1, 0, none⟩) (by simp) (.bool true)
    have j3 : Blk (((w2.setCell ⟨w.heap.size, 0, none⟩ (.slice A2 ws.length c2)).setCell ⟨w.heap.size + 1, 0, none⟩ (.int .i64 r.length)).setCell ⟨w.heap.size + 1 + 1, 0, none⟩ (.bool true)) (w.heap.size + 1 + 1) 4 #[.bool true] := by
      simpa using ((KC.out.far (p := ⟨w.heap.size, 0, none⟩) (by simp; omega) (.slice A2 ws.length c2)).far (p := ⟨w.heap.size + 1, 0, none⟩) (by simp) (.int .i64 r.length)).set_ 0 (.bool true)
    have jw := ownsRow_setCell_below (ownsRow_setCell_below (ownsRow_setCell_below KW.out (a := ⟨w.heap.size, 0, none⟩) (by simp; omega) (.slice A2 ws.length c2)) (a := ⟨w.heap.size + 1, 0, none⟩) (by simp; omega) (.int .i64 r.length)) (a := ⟨w.heap.size + 1 + 1, 0, none⟩) (by simp; omega) (.bool true)
    have jb := ((KZ.out.setCell (p := ⟨w.heap.size, 0, none⟩) (Nat.le_refl _) (.slice A2 ws.length c2)).setCell (p := ⟨w.heap.size + 1, 0, none⟩) (Nat.le_succ _) (.int .i64 r.length)).setCell (p := ⟨w.heap.size + 1 + 1, 0, none⟩) (by simp; omega) (.bool true)
    have d1 := j1.cell 0
    have d2 := j2.cell 0
    have d3 := j3.cell 0
    simp only [List.getElem?_toArray, List.getElem?_cons_zero] at d1 d2 d3
    have JW := Lib.hid jw; have JB := Lib.hid jb; have D1 := Lib.hid d1; have D2 := Lib.hid d2; have D3 := Lib.hid d3
    clear j1 j2 j3 jw jb d1 d2 d3
    go_region
    go_wp2
    generalize ((w2.setCell ⟨w.heap.size, 0, none⟩ (.slice A2 ws.length c2)).setCell ⟨w.heap.size + 1, 0, none⟩ (.int .i64 r.length)).setCell ⟨w.heap.size + 1 + 1, 0, none⟩ (.bool true) = w3 at *
    refine leaves_cons (f := 147) (args := #[wptr w.heap.size, wptr (w.heap.size + 1), wptr (w.heap.size + 2)]) (by simp) (by simp [go_sem]) ?_
    refine (catchW_idle w.heap.size (w.heap.size + 1) (w.heap.size + 2) _).mono ?_
    rintro e u' w4 ⟨rfl, rfl, rfl⟩
    have E1 := D1.out
    have E2 := D2.out
    have E3 := D3.out
    simp [Leaves, settle, results, Tryz.results73, go_sem, E1, E2, E3]
    exact ⟨JB.out.drew, _, rfl, own_mono JW.out (by omega)⟩
end Go.Proofs.YtmepaeahchiglaaGreatDoor
namespace Go.Proofs.YtmepaeahchiglaaGreatDoor
open Go.RowKit Go.Lib

/-- What GetWord returns: the word, how many bytes it has, the error. -/
def getW (bs : List Nat) : List Snd × Nat × Int := match wordR bs with
  | none => ([], 0, 10)
  | some (ws, r) => if wordE ws = 0 then (ws, bs.length - r.length, 0) else ([], 0, wordE ws)
def GivesW (w : World) (x : List Snd × Nat × Int) (e : Ending) (w' : World) : Prop := ∃ v, e = .returned (.tuple #[v, .int .i64 x.2.1, .int .i64 x.2.2]) ∧ wordW w.heap.size x.1 w' v ∧ Below w.heap.size w w'
theorem wordR_ok {bs r : List Nat} {ws : List Snd} (hb : ∀ b ∈ bs, b < 256) (h : wordR bs = some (ws, r)) : r.length ≤ bs.length ∧ ∀ s ∈ ws, ok32 s := by
  obtain ⟨e, h1, h2⟩ := canon_word bs ws r hb h
  refine ⟨?_, h2⟩
  rw [e, List.length_append]; omega
set_option maxRecDepth 20000 in
set_option maxHeartbeats 2000000 in
theorem getWord_any (w : World) (A : Option Addr) (n c B : Nat) (bs : List Nat) (hr : Reads w B 1 A n (bs.map bv)) (hB : B ≤ w.heap.size) (hn : n ≤ c) (hc : c ≤ maxLen) (hs : n ≤ 1073741824) (hb : ∀ b ∈ bs, b < 256) :
    Calls Tryz.prog 24 #[.slice A n c] w (GivesW w (getW bs)) := by
  have hrd := readW_any w A n c B bs hr hB hn hc hs hb
  have hbl : bs.length = n := by have := hr.1; simpa using this
  unfold getW
  cases hw : wordR bs with
  | none =>
    rw [hw] at hrd
    clear hr hb
    go_enter Tryz.func24, Tryz.ntmps24
    go_wp2_with fail
    refine hrd.mono ?_
    rintro e w1 ⟨h1, rfl⟩
    have H1 := Lib.hid h1
    clear h1
    go_wp2
    go_ret3
    exact ⟨_, rfl, World.ownsRow_nil _ _ _ _, H1.out⟩
  | some q =>
    obtain ⟨ws, r⟩ := q
    rw [hw] at hrd
    obtain ⟨hle, hok⟩ := wordR_ok hb hw
    have hrn : r.length ≤ n := by omega
    show Calls _ _ _ _ (GivesW w (if wordE ws = 0 then (ws, bs.length - r.length, 0) else ([], 0, wordE ws)))
    rw [hbl]
    have HOK := Lib.hid hok
    clear hr hb hw hok hbl hle
    by_cases h0 : wordE ws = 0
    · rw [if_pos h0]
      have hsub : (n : Int) - (r.length : Int) = ((n - r.length : Nat) : Int) := by omega
      have HSUB := Lib.hid hsub; have H0 := Lib.hid h0
      clear hsub h0
      go_enter Tryz.func24, Tryz.ntmps24
      go_wp2_with fail
      refine hrd.mono ?_
      rintro e w1 ⟨h1, v, rfl, h2⟩
      obtain ⟨A2, c2, rfl, h3, h4⟩ := ownsRow_form h2
      have hck := wordCheck_any A2 ws.length c2 w1.heap.size ws w1 (Reads.of_own h2) (Nat.le_refl _) (by omega) HOK.out
      rw [H0.out] at hck
      have H1 := Lib.hid h1; have H2 := Lib.hid h2
      clear h1 h2
      go_wp2_with fail
      refine hck.mono ?_
      rintro e w2 ⟨rfl, h5⟩
      have H5 := Lib.hid h5
      clear h5
      unfold maxLen at hc
      go_wp2
      go_ret3
      refine ⟨_, by rw [← HSUB.out]; rfl, ?_, H1.out.trans (H5.out.mono H1.out.size)⟩
      exact own_below' H2.out H5.out
    · rw [if_neg h0]
      have hne : (wordE ws != 0) = true := by simpa using h0
      clear h0
      go_enter Tryz.func24, Tryz.ntmps24
      go_wp2_with fail
      refine hrd.mono ?_
      rintro e w1 ⟨h1, v, rfl, h2⟩
      obtain ⟨A2, c2, rfl, h3, h4⟩ := ownsRow_form h2
      have hck := wordCheck_any A2 ws.length c2 w1.heap.size ws w1 (Reads.of_own h2) (Nat.le_refl _) (by omega) HOK.out
      have H1 := Lib.hid h1; have H2 := Lib.hid h2
      clear h1 h2 HOK
      generalize wordE ws = x at *
      go_wp2_with fail
      refine hck.mono ?_
      rintro e w2 ⟨rfl, h5⟩
      have H5 := Lib.hid h5
      clear h5
      go_wp2
      go_ret3
      exact ⟨_, rfl, World.ownsRow_nil _ _ _ _, H1.out.trans (H5.out.mono H1.out.size)⟩
end Go.Proofs.YtmepaeahchiglaaGreatDoor
namespace Go.Proofs.YtmepaeahchiglaaGreatDoor

def crcP : Nat := 3988292384
def crcBit (r : Nat) : Nat := if r % 2 = 1 then (r / 2) ^^^ crcP else r / 2
def crcBits : Nat → Nat → Nat
  | 0, r => r
  | k + 1, r => crcBits k (crcBit r)
def crcByte (r c : Nat) : Nat := crcBits 8 (r ^^^ c)
def crcAll (r : Nat) (b : List Nat) : Nat := b.foldl crcByte r
def ones : Nat := 4294967295
/-- The checksum of bytes. -/
def sumB (b : List Nat) : Nat := ones ^^^ crcAll ones b
theorem crcBit_lt {r : Nat} (h : r < 4294967296) : crcBit r < 4294967296 := by
  unfold crcBit crcP
  split
  · exact Nat.xor_lt_two_pow (n := 32) (by omega) (by decide)
  · omega
theorem crcBits_lt : ∀ (k : Nat) {r : Nat}, r < 4294967296 → crcBits k r < 4294967296
  | 0, _, h => h
  | k + 1, _, h => crcBits_lt k (crcBit_lt h)
theorem crcByte_lt {r c : Nat} (h : r < 4294967296) (hc : c < 256) : crcByte r c < 4294967296 := crcBits_lt 8 (Nat.xor_lt_two_pow (n := 32) h (by omega))
theorem crcAll_lt : ∀ (b : List Nat) {r : Nat}, r < 4294967296 → (∀ c ∈ b, c < 256) → crcAll r b < 4294967296
  | [], _, h, _ => h
  | c :: b, _, h, hb => crcAll_lt b (crcByte_lt h (hb c (List.mem_cons_self ..))) (fun x hx => hb x (List.mem_cons_of_mem _ hx))
/-- The four bytes of a number. -/
def fourB (n : Nat) : List Nat := [n % 256, n / 256 % 256, n / 65536 % 256, n / 16777216 % 256]
end Go.Proofs.YtmepaeahchiglaaGreatDoor
namespace Go.Proofs.YtmepaeahchiglaaGreatDoor
open Go.RowKit Go.Lib

theorem crcBits_succ : ∀ (k r : Nat), crcBits (k + 1) r = crcBit (crcBits k r)
  | 0, _ => rfl
  | k + 1, r => by
    show crcBits (k + 1) (crcBit r) = _
    rw [crcBits_succ k]; rfl
theorem bit_step {X : Nat} (h : X < 4294967296) : bits .xor .u32 ((X : Int) / 2) (bits .and .u32 3988292384 (-((X : Int) % 2) % 4294967296)) = ((crcBit X : Nat) : Int) := by
  have e : (X : Int) / 2 = ((X / 2 : Nat) : Int) := by omega
  rw [e]
  unfold crcBit crcP
  by_cases h1 : X % 2 = 1
  · rw [if_pos h1, show (-((X : Int) % 2) % 4294967296) = 4294967295 by omega, show bits .and .u32 3988292384 4294967295 = ((3988292384 : Nat) : Int) by decide]
    exact u32_xor_nat (X / 2) 3988292384 (by omega) (by decide)
  · rw [if_neg h1, show (-((X : Int) % 2) % 4294967296) = 0 by omega, show bits .and .u32 3988292384 0 = ((0 : Nat) : Int) by decide]
    have := u32_xor_nat (X / 2) 0 (by omega) (by decide)
    simpa using this
set_option maxRecDepth 20000 in
set_option maxHeartbeats 4000000 in
theorem sum_any (A : Option Addr) (n c : Nat) (xs : List UInt8) (w : World) (hx : ReadB w w.heap.size A n xs) (hn : n ≤ maxLen) :
    Calls Tryz.prog 19 #[.slice A n c] w fun e w' => e = .returned (.int .u32 (sumB (xs.map UInt8.toNat) : Nat)) ∧ w = w' := by
  unfold maxLen at hn
  obtain ⟨res, hres⟩ : ∃ res : Nat, sumB (xs.map UInt8.toNat) = res := ⟨_, rfl⟩
  rw [hres]
  have HX := Lib.hid hx; have HRES := Lib.hid hres
  clear hx hres
  go_enter Tryz.func19, Tryz.ntmps19
  have hxl := HX.out.len
  go_wp2
  go_loopw [3, 8] (fun r i wr => ∃ k : Nat, k ≤ n ∧ i = .int .i64 k ∧ r = .int .u32 (crcAll ones ((xs.map UInt8.toNat).take k) : Nat) ∧ w = wr) (fun _ i _ => n - (RowKit.intOf i).toNat)
  case atStart => exact ⟨0, by omega, rfl, rfl, rfl⟩
  case round =>
    obtain ⟨k, hk, rfl, rfl, rfl⟩ := hrel
    by_cases hlt : k < n
    · have hkl : k < xs.length := by omega
      obtain ⟨ad, rfl, had, hcx⟩ := ReadB.at_ (k := k) HX.out hkl
      have hkI : (k : Int) < (n : Int) := by omega
      have hR : crcAll ones ((xs.map UInt8.toNat).take k) < 4294967296 := crcAll_lt _ (by decide) (fun c hc => by
        obtain ⟨x, _, rfl⟩ := List.mem_map.1 (List.mem_of_mem_take hc)
        exact x.toNat_lt)
      have hst : crcAll ones ((xs.map UInt8.toNat).take (k + 1)) = crcByte (crcAll ones ((xs.map UInt8.toNat).take k)) xs[k].toNat := by
        rw [List.take_succ_eq_append_getElem (by simpa using hkl)]
        unfold crcAll
        rw [List.foldl_append, List.foldl_cons, List.foldl_nil, List.getElem_map]
      have hc256 := xs[k].toNat_lt
      generalize xs[k].toNat = cc at hcx hst hc256
      generalize crcAll ones ((xs.map UInt8.toNat).take k) = R at hR hst ⊢
      have HST := Lib.hid hst
      have hxor := u32_xor_nat R cc hR (by omega)
      clear hst
      have hY : R ^^^ cc < 4294967296 := Nat.xor_lt_two_pow (n := 32) hR (by omega)
      go_wp2
      generalize hYe : R ^^^ cc = Y at *
      have HY := Lib.hid hYe
      clear hYe
      clear hxor
      go_loopw [3, 16] (fun r i wr => ∃ j : Nat, j ≤ 8 ∧ i = .int .i64 j ∧ r = .int .u32 (crcBits j Y : Nat) ∧ w = wr) (fun _ i _ => 8 - (RowKit.intOf i).toNat)
      case atStart => exact ⟨0, by omega, rfl, rfl, rfl⟩
      case round =>
        obtain ⟨j, hj, rfl, rfl, rfl⟩ := hrel
        by_cases hlt2 : j < 8
        · have hX : crcBits j Y < 4294967296 := crcBits_lt j hY
          have hst2 := crcBits_succ j Y
          generalize crcBits j Y = X at hX hst2 ⊢
          have HST2 := Lib.hid hst2
          have hbs := bit_step hX
          have hand : bits .and .u32 (X : Int) 1 = (X : Int) % 2 := by
            have := u32_and_nat X 1 hX (by decide)
            rw [Nat.and_one_is_mod] at this
            simpa using this
          clear hst2
          go_wp2
          go_roundw
          case rel => exact ⟨j + 1, by omega, by go_num, by rw [HST2.out, ← hbs], trivial⟩
          case measure => simp [RowKit.intOf]; omega
        · obtain rfl : j = 8 := by omega
          go_wp2
          go_roundw
          case rel => exact ⟨k + 1, by omega, by go_num, by rw [HST.out]; unfold crcByte; rw [HY.out], trivial⟩
          case measure => simp [RowKit.intOf]; omega
    · obtain rfl : k = n := by omega
      rw [List.take_of_length_le (by rw [List.length_map]; omega)]
      have hr := HRES.out
      unfold sumB at hr
      have hlt3 : crcAll ones (xs.map UInt8.toNat) < 4294967296 := crcAll_lt _ (by decide) (fun c hc => by
        obtain ⟨x, _, rfl⟩ := List.mem_map.1 hc
        exact x.toNat_lt)
      generalize crcAll ones (xs.map UInt8.toNat) = R at hr hlt3 ⊢
      have hm : bits .xor .u32 IntKind.u32.max (R : Int) = ((ones ^^^ R : Nat) : Int) := u32_xor_nat 4294967295 R (by decide) hlt3
      go_wp2
      go_ret
      exact ⟨by rw [← hr, ← hm]; rfl, rfl⟩
end Go.Proofs.YtmepaeahchiglaaGreatDoor
namespace Go.Proofs.YtmepaeahchiglaaGreatDoor
open Go.RowKit Go.Lib

theorem setRow_new (w : World) (c c' : Array Value) (t : TypeId) : (w.alloc (.cells c t)).setRow w.heap.size c' = w.alloc (.cells c' t) := by
  simp only [World.setRow, World.alloc]
  congr 1
  apply Array.ext_getElem?
  intro i
  rw [Array.getElem?_modify]
  by_cases h : w.heap.size = i
  · subst h
    simp
  · have h' : ¬ i = w.heap.size := fun e => h e.symm
    simp [h, h', Array.getElem?_push]
/-- A store of a whole row into the block that was made last. -/
theorem store_new {P : Program} {ops : Array Oper} {rest : List Oper} {o : Oper} {a : Act} {w : World} {c cs : Array Value} {Q : Exit → Act → World → Prop} (hgd : o.guard = none) (ty : TypeId) (x y : Operand) (ho : o.op = .store ty x y)
    (hx : a.eval x = .pointer (some ⟨w.heap.size, 0, none⟩)) (hy : a.eval y = .agg cs) (hi : (P.info? ty).map (·.size) = some cs.size) (hc : c.size = cs.size) (h1 : cs.all (·.oneCell') = true)
    (h : wpList P ops Q rest (a.put o.dst undef) (w.alloc (.cells cs ty))) : wpList P ops Q (o :: rest) a (w.alloc (.cells c ty)) := by
  refine wpList_plain hgd fun _ hK => ?_
  unfold Oper.wp execOp
  simp only [ho, hx, hy, Instr.storeAt, Instr.sureAddr, Sem.run_bind, Sem.run_pure, Result.andThen_ok, run_storeVar_row _ _ ty ty c cs (heap_alloc_new w _) hi hc h1, setRow_new]
  exact hK _ _ h
theorem reads_lit (w : World) (t : TypeId) (k n : Nat) (xs : List Value) (hl : xs.length = n * k) : Reads (w.alloc (.cells xs.toArray t)) (w.heap.size + 1) k (some ⟨w.heap.size, 0, none⟩) n xs :=
  ⟨hl, fun _ => ⟨_, rfl, Nat.lt_succ_self _, fun j u hu => by rw [add_at, (Blk.new w t xs.toArray).cell j]; simpa using hu⟩⟩
/-- The law that works packs. -/
def lawT : Lw := ⟨⟨#[86]⟩, .mk 1 (4, 0) false 0 0 [], .mk 1 (4, 0) false 0 0 [], [(2, 0)], [⟨0, 0, (1, 0), 0, 0⟩], 1⟩
/-- What works made ahead of its calls. -/
structure WF (w W : World) (cs : List Value) : Prop where
  below : Below w.heap.size w W
  lt : w.heap.size + 6 ≤ W.heap.size
  b1 : Blk W w.heap.size 55 #[.int .u32 2, .int .u32 5]
  b2 : Blk W (w.heap.size + 1) 55 #[.int .u32 5, .int .u32 2]
  b5 : Blk W (w.heap.size + 1 + 1 + 1 + 1 + 1) 62 cs.toArray
  law : LawC W (w.heap.size + 6) lawT cs
theorem WF.next {w W W' : World} {cs : List Value} (h : WF w W cs) (hb : Below W.heap.size W W') : WF w W' cs :=
  ⟨h.below.trans (hb.mono h.below.size), by have := h.lt; have := hb.size; omega, h.b1.below hb h.b1.lt, h.b2.below hb h.b2.lt, h.b5.below hb h.b5.lt, h.law.below (hb.mono h.lt)⟩
theorem WF.alloc {w W : World} {cs : List Value} (h : WF w W cs) (o : Obj) : WF w (W.alloc o) cs := h.next ((Below.refl _ W).alloc (Nat.le_refl _) o)
theorem works_start (w : World) : ∃ W cs, ((((((w.alloc (.cells #[.int .u32 2, .int .u32 5] 55)).alloc (.cells #[.int .u32 5, .int .u32 2] 55)).alloc (.cells #[.int .i64 1, .int .u32 4, .int .u32 0, .bool false, .int .i64 0, .int .i64 0, .slice none 0 0] 58)).alloc (.cells #[.int .u32 2, .int .u32 0] 55)).alloc
    (.cells #[.int .i64 0, .int .u32 0, .int .u32 1, .int .u32 0, .int .u32 0, .int .i64 0] 90)).alloc (.cells #[.string { data := #[86] }, .int .i64 1, .int .u32 4, .int .u32 0, .bool false, .int .i64 0, .int .i64 0, .slice none 0 0, .int .i64 1, .int .u32 4, .int .u32 0, .bool false, .int .i64 0, .int .i64 0, .slice none 0 0,
      .slice (some { block := w.heap.size + 1 + 1 + 1, off := 0 }) 1 1, .slice (some { block := w.heap.size + 1 + 1 + 1 + 1, off := 0 }) 1 1, .int .i64 1] 62)) = W ∧ WF w W cs ∧ W.heap.size = w.heap.size + 1 + 1 + 1 + 1 + 1 + 1 := by
  refine ⟨_, [.string { data := #[86] }, .int .i64 1, .int .u32 4, .int .u32 0, .bool false, .int .i64 0, .int .i64 0, .slice none 0 0, .int .i64 1, .int .u32 4, .int .u32 0, .bool false, .int .i64 0, .int .i64 0, .slice none 0 0,
      .slice (some { block := w.heap.size + 1 + 1 + 1, off := 0 }) 1 1, .slice (some { block := w.heap.size + 1 + 1 + 1 + 1, off := 0 }) 1 1, .int .i64 1], rfl, ?_, by simp only [World.size_alloc]⟩
  have e1 := Below.refl w.heap.size w
  have f1 := Blk.new w 55 #[.int .u32 2, .int .u32 5]
  have e2 := e1.alloc (Nat.le_refl _) (.cells #[.int .u32 2, .int .u32 5] 55)
  have z2 : (w.alloc (.cells #[.int .u32 2, .int .u32 5] 55)).heap.size = w.heap.size + 1 := World.size_alloc _ _
  generalize w.alloc (.cells #[.int .u32 2, .int .u32 5] 55) = W1 at *
  have f2 := Blk.new W1 55 #[.int .u32 5, .int .u32 2]
  replace f1 := f1.alloc (.cells #[.int .u32 5, .int .u32 2] 55)
  have e3 := e2.alloc (by omega) (.cells #[.int .u32 5, .int .u32 2] 55)
  have z3 : (W1.alloc (.cells #[.int .u32 5, .int .u32 2] 55)).heap.size = w.heap.size + 1 + 1 := by rw [World.size_alloc, z2]
  rw [z2] at f2
  generalize W1.alloc (.cells #[.int .u32 5, .int .u32 2] 55) = W2 at *
  replace f1 := f1.alloc (.cells #[.int .i64 1, .int .u32 4, .int .u32 0, .bool false, .int .i64 0, .int .i64 0, .slice none 0 0] 58)
  replace f2 := f2.alloc (.cells #[.int .i64 1, .int .u32 4, .int .u32 0, .bool false, .int .i64 0, .int .i64 0, .slice none 0 0] 58)
  have e4 := e3.alloc (by omega) (.cells #[.int .i64 1, .int .u32 4, .int .u32 0, .bool false, .int .i64 0, .int .i64 0, .slice none 0 0] 58)
  have z4 : (W2.alloc (.cells #[.int .i64 1, .int .u32 4, .int .u32 0, .bool false, .int .i64 0, .int .i64 0, .slice none 0 0] 58)).heap.size = w.heap.size + 1 + 1 + 1 := by rw [World.size_alloc, z3]
  generalize W2.alloc (.cells #[.int .i64 1, .int .u32 4, .int .u32 0, .bool false, .int .i64 0, .int .i64 0, .slice none 0 0] 58) = W3 at *
  have r4 := reads_lit W3 55 2 1 [.int .u32 2, .int .u32 0] rfl
  replace f1 := f1.alloc (.cells #[.int .u32 2, .int .u32 0] 55)
  replace f2 := f2.alloc (.cells #[.int .u32 2, .int .u32 0] 55)
  have e5 := e4.alloc (by omega) (.cells #[.int .u32 2, .int .u32 0] 55)
  have z5 : (W3.alloc (.cells #[.int .u32 2, .int .u32 0] 55)).heap.size = w.heap.size + 1 + 1 + 1 + 1 := by rw [World.size_alloc, z4]
  rw [z4] at r4
  generalize W3.alloc (.cells #[.int .u32 2, .int .u32 0] 55) = W4 at *
  have r5 := reads_lit W4 90 6 1 [.int .i64 0, .int .u32 0, .int .u32 1, .int .u32 0, .int .u32 0, .int .i64 0] rfl
  replace r4 := r4.alloc (by omega) (.cells #[.int .i64 0, .int .u32 0, .int .u32 1, .int .u32 0, .int .u32 0, .int .i64 0] 90)
  replace f1 := f1.alloc (.cells #[.int .i64 0, .int .u32 0, .int .u32 1, .int .u32 0, .int .u32 0, .int .i64 0] 90)
  replace f2 := f2.alloc (.cells #[.int .i64 0, .int .u32 0, .int .u32 1, .int .u32 0, .int .u32 0, .int .i64 0] 90)
  have e6 := e5.alloc (by omega) (.cells #[.int .i64 0, .int .u32 0, .int .u32 1, .int .u32 0, .int .u32 0, .int .i64 0] 90)
  have z6 : (W4.alloc (.cells #[.int .i64 0, .int .u32 0, .int .u32 1, .int .u32 0, .int .u32 0, .int .i64 0] 90)).heap.size = w.heap.size + 1 + 1 + 1 + 1 + 1 := by rw [World.size_alloc, z5]
  rw [z5] at r5
  generalize W4.alloc (.cells #[.int .i64 0, .int .u32 0, .int .u32 1, .int .u32 0, .int .u32 0, .int .i64 0] 90) = W5 at *
  generalize hO : Obj.cells #[.string { data := #[86] }, .int .i64 1, .int .u32 4, .int .u32 0, .bool false, .int .i64 0, .int .i64 0, .slice none 0 0, .int .i64 1, .int .u32 4, .int .u32 0, .bool false, .int .i64 0, .int .i64 0, .slice none 0 0,
      .slice (some { block := w.heap.size + 1 + 1 + 1, off := 0 }) 1 1, .slice (some { block := w.heap.size + 1 + 1 + 1 + 1, off := 0 }) 1 1, .int .i64 1] 62 = ob
  have hnw : (W5.alloc ob).heap[W5.heap.size]? = some ob := heap_alloc_new W5 ob
  rw [z6] at hnw
  refine ⟨e6.alloc (by omega) _, by rw [World.size_alloc, z6]; omega, f1.alloc _, f2.alloc _, by rw [← hO] at hnw ⊢; exact hnw, ?_⟩
  refine ⟨[.int .i64 1, .int .u32 4, .int .u32 0, .bool false, .int .i64 0, .int .i64 0, .slice none 0 0], [.int .i64 1, .int .u32 4, .int .u32 0, .bool false, .int .i64 0, .int .i64 0, .slice none 0 0], some ⟨w.heap.size + 1 + 1 + 1, 0, none⟩, 1, some ⟨w.heap.size + 1 + 1 + 1 + 1, 0, none⟩, 1, rfl, ?_, ?_, ?_, ?_, ?_, ?_, ?_, ?_⟩
  · exact patC_mk.2 ⟨none, 0, [], rfl, by unfold ok32 is32; decide, by decide, by decide, Reads.none_, patsC_nil.2 rfl⟩
  · exact patC_mk.2 ⟨none, 0, [], rfl, by unfold ok32 is32; decide, by decide, by decide, Reads.none_, patsC_nil.2 rfl⟩
  · exact (r4.alloc (by omega) _).more (by omega)
  · exact (r5.alloc (by omega) _).more (by omega)
  · intro s hs; simp only [lawT, List.mem_singleton] at hs; subst hs; unfold ok32 is32; decide
  · intro x hx; simp only [lawT, List.mem_singleton] at hx; subst hx; unfold ok32 is32; decide
  · decide
  · decide
set_option maxRecDepth 20000 in
theorem putW_T : putW [(2, 5), (5, 2)] = [2, 2, 5, 5, 2] := by decide
set_option maxRecDepth 20000 in
theorem wordE_T : wordE [(2, 5), (5, 2)] = 0 := by decide
set_option maxRecDepth 20000 in
theorem getW_T : getW [2, 2, 5, 5, 2, 99] = ([(2, 5), (5, 2)], 5, 0) := by decide
set_option maxRecDepth 20000 in
theorem lawE_T : lawE lawT = 0 := by decide
set_option maxRecDepth 20000 in
theorem putL_T : putL lawT = [1, 86, 1, 4, 0, 0, 1, 4, 0, 0, 1, 2, 0, 1, 1, 0, 1, 0, 0, 0, 1] := by decide
set_option maxRecDepth 20000 in
theorem sumB_T : sumB [49, 50, 51, 52, 53, 54, 55, 56, 57] = 3421780262 := by decide
end Go.Proofs.YtmepaeahchiglaaGreatDoor
