/-
  layer 43: reading that may end in a panic, caught: read at words; GetWord. Conditions: bytes that can be read.
-/
import Derived.Test.YtmepaeahchiglaaGreatDoorZbah
import Derived.Test.YtmepaeahchiglaaGreatDoorZbac
import Derived.Defers
import Derived.Recover
import Derived.Test.YtmepaeahchiglaaGreatDoorZbPkLu
import Derived.Deep.RegionHeldLaw
import Derived.Deep.MidRow
import Derived.Test.YtmepaeahchiglaaGreatDoorZbak
namespace Go.Proofs.YtmepaeahchiglaaGreatDoor
open Go.RowKit Go.Lib

/-- The panic was caught: nothing, 0, false. -/
def Caught (T : TypeId) (a b c : Nat) (zero : Array Value) (w : World) (e : Ending) (u' : FrameMode) (w' : World) : Prop :=
  e = .returned (.tuple #[]) ∧ (∃ pv, u' = .panicking [{ v := pv, recovered := true }]) ∧ Blk w' a T zero ∧ Blk w' b 3 #[.int .i64 0] ∧ Blk w' c 4 #[.bool false] ∧ Chg [a, b, c] w w'
theorem run_assert (w : World) : (Instr.typeAssert (.iface 172 (.agg #[])) 20 172 true).run Tryz.prog w = .ok (.tuple #[.agg #[], .bool true]) w := by
  kernel_rfl
def CaughtX (T : TypeId) (a b c : Nat) (zero : Array Value) (w : World) (ex : Exit) (act : Act) (w' : World) : Prop :=
  ex = .normal ∧ act.defers = [] ∧ Blk w' a T zero ∧ Blk w' b 3 #[.int .i64 0] ∧ Blk w' c 4 #[.bool false] ∧ Chg [a, b, c] w w'
theorem frame19 (a b c M : Value) : #[a, b, c] ++ ((Array.replicate 16 undef).setIfInBounds 4 M).setIfInBounds 0 M = #[a, b, c, M, undef, undef, undef, M, undef, undef, undef, undef, undef, undef, undef, undef, undef, undef, undef] := by
  apply Array.ext'
  simp [List.replicate_succ]
set_option maxRecDepth 20000 in
set_option maxHeartbeats 1000000 in
theorem catchW_mal (a b c : Nat) (x y z : Value) (w : World) (ha : Blk w a 59 #[x]) (hb : Blk w b 3 #[y]) (hc : Blk w c 4 #[z]) :
    CallsD Tryz.prog 147 #[wptr a, wptr b, wptr c] (.panicking MAL) w (Caught 59 a b c #[.slice none 0 0] w) := by
  have nab : a ≠ b := ha.ne_ hb (by decide)
  have nac : a ≠ c := ha.ne_ hc (by decide)
  have nbc : b ≠ c := hb.ne_ hc (by decide)
  have ga := ha.cell 0
  have gb := hb.cell 0
  have gc := hc.cell 0
  have fa := ha.frozen 0
  have fb := hb.frozen 0
  have fc := hc.frozen 0
  have la := ha.lt
  have lb := hb.lt
  have lc := hc.lt
  simp only [List.getElem?_toArray, List.getElem?_cons_zero] at ga gb gc
  refine callsD_of_wpS Tryz.func147 rfl fun c₀ cs hu => ?_
  apply wpS_seq
  apply wpS_region
  simp [wpOpsS, go_sem, recoverD, hu, Tryz.ntmps147, Exit.thenS]
  rw [frame19]
  refine wpS_of_wp (Code.wp_mono (Q := CaughtX 59 a b c #[.slice none 0 0] w) ?_ ?_)
  · rintro ex act w' ⟨rfl, h1, h2⟩
    exact ⟨h1, _, rfl, _, results_none rfl _ _ _, rfl, ⟨_, rfl⟩, h2⟩
  · have hta := run_assert
    have h1 := (((ha.set_ 0 (.slice none 0 0)).far (p := ⟨b, 0, none⟩) nab (.int .i64 0)).far (p := ⟨c, 0, none⟩) nac (.bool false)).alloc (.cells #[] 172)
    have h2 := (((hb.far (p := ⟨a, 0, none⟩) (Ne.symm nab) (.slice none 0 0)).set_ 0 (.int .i64 0)).far (p := ⟨c, 0, none⟩) nbc (.bool false)).alloc (.cells #[] 172)
    have h3 := (((hc.far (p := ⟨a, 0, none⟩) (Ne.symm nac) (.slice none 0 0)).far (p := ⟨b, 0, none⟩) (Ne.symm nbc) (.int .i64 0)).set_ 0 (.bool false)).alloc (.cells #[] 172)
    have h4 := ((((Chg.refl [a, b, c] w).setCell (p := ⟨a, 0, none⟩) (.inl (by simp)) (.slice none 0 0)).setCell (p := ⟨b, 0, none⟩) (.inl (by simp)) (.int .i64 0)).setCell (p := ⟨c, 0, none⟩) (.inl (by simp)) (.bool false)).alloc (.cells #[] 172)
    have H1 := Lib.hid h1; have H2 := Lib.hid h2; have H3 := Lib.hid h3; have H4 := Lib.hid h4
    clear h1 h2 h3 h4
    go_wp2
    exact ⟨rfl, rfl, by simpa using H1.out, by simpa using H2.out, by simpa using H3.out, H4.out⟩
theorem catchW_idle (a b c : Nat) (w : World) :
    CallsD Tryz.prog 147 #[wptr a, wptr b, wptr c] .returning w fun e u' w' => e = .returned (.tuple #[]) ∧ u' = .returning ∧ w = w' := by
  refine callsD_of_wpS Tryz.func147 rfl fun c₀ cs hu => ?_
  apply wpS_seq
  apply wpS_region
  simp [wpOpsS, go_sem, recoverD, hu, Tryz.ntmps147, Exit.thenS]
  rw [frame19]
  refine wpS_of_wp (Code.wp_mono (Q := fun ex act w' => ex = .normal ∧ act.defers = [] ∧ w = w') ?_ ?_)
  · rintro ex act w' ⟨rfl, h1, rfl⟩
    cases c₀
    simp only at hu
    subst hu
    exact ⟨h1, _, rfl, _, results_none rfl _ _ _, rfl, rfl, rfl⟩
  · go_wp2
theorem getw1_any (w : World) (g : Nat) (bs : List Nat) (h : Rd w g bs) :
    Calls Tryz.prog 74 #[wptr g] w (RdPost g (wordW w.heap.size) w (wordR bs)) := by
  have hc := rsome_any w g bs h
  clear h
  cases hw : wordR bs with
  | none =>
    rw [hw] at hc
    go_enter Tryz.func74, Tryz.ntmps74
    go_wp2_with fail
    refine hc.mono ?_
    rintro e w1 ⟨h1, rfl⟩
    exact ⟨rfl, h1, rfl⟩
  | some q =>
    obtain ⟨ws, r⟩ := q
    rw [hw] at hc
    go_enter Tryz.func74, Tryz.ntmps74
    go_wp2_with fail
    refine hc.mono ?_
    rintro e w1 ⟨h1, v, rfl, h2, h3⟩
    have H1 := Lib.hid h1; have H2 := Lib.hid h2; have H3 := Lib.hid h3
    clear h1 h2 h3
    go_wp2
    go_ret
    exact ⟨H1.out, _, rfl, H2.out, H3.out⟩
/-- What read returns: a value, how many bytes are left, true; or a zero value, 0, false. -/
def ReadPost {α : Type} (val : α → World → Value → Prop) (zero : Value) (w : World) (o : Option (α × List Nat)) (e : Ending) (w' : World) : Prop :=
  Below w.heap.size w w' ∧ match o with
    | some (x, r) => ∃ v, e = .returned (.tuple #[v, .int .i64 r.length, .bool true]) ∧ val x w' v
    | none => e = .returned (.tuple #[zero, .int .i64 0, .bool false])
set_option maxRecDepth 20000 in
set_option maxHeartbeats 2000000 in
theorem readW_any (w : World) (A : Option Addr) (n c B : Nat) (bs : List Nat) (hr : Reads w B 1 A n (bs.map bv)) (hB : B ≤ w.heap.size) (hn : n ≤ c) (hc : c ≤ maxLen) (hs : n ≤ 1073741824) (hb : ∀ b ∈ bs, b < 256) :
    Calls Tryz.prog 73 #[.slice A n c, .func (.func 74) #[] #[]] w (ReadPost (wordW w.heap.size) (.slice none 0 0) w (wordR bs)) := by
  have hmf : ∀ (fn : Fn) (first cap : Array Value) (w : World), (Instr.makeFunc fn first cap).run Tryz.prog w = .ok (.func fn first cap) w := fun _ _ _ _ => rfl
  have hbl : bs.length = n := by have := hr.1; simpa using this
  obtain ⟨w0, hw0⟩ : ∃ w0, (((w.alloc (.cells #[.slice none 0 0] 59)).alloc (.cells #[.int .i64 0] 3)).alloc (.cells #[.bool false] 4)).alloc (.cells #[.slice A n c] 175) = w0 := ⟨_, rfl⟩
  have hsz : w0.heap.size = w.heap.size + 4 := by rw [← hw0]; simp
  have hB0 : Below w.heap.size w w0 := by
    rw [← hw0]
    exact ((((Below.refl _ w).alloc (Nat.le_refl _) _).alloc (by simp) _).alloc (by simp; omega) _).alloc (by simp; omega) _
  have ha : Blk w0 w.heap.size 59 #[.slice none 0 0] := by
    rw [← hw0]
    exact (((Blk.new w _ _).alloc _).alloc _).alloc _
  have hb1 : Blk w0 (w.heap.size + 1) 3 #[.int .i64 0] := by
    rw [← hw0]
    exact ((by simpa using Blk.new (w.alloc (.cells #[.slice none 0 0] 59)) 3 #[.int .i64 0] : Blk _ (w.heap.size + 1) _ _).alloc _).alloc _
  have hc1 : Blk w0 (w.heap.size + 2) 4 #[.bool false] := by
    rw [← hw0]
    exact (by simpa using Blk.new ((w.alloc (.cells #[.slice none 0 0] 59)).alloc (.cells #[.int .i64 0] 3)) 4 #[.bool false] : Blk _ (w.heap.size + 2) _ _).alloc _
  have hd1 : Blk w0 (w.heap.size + 3) 175 #[.slice A n c] := by
    rw [← hw0]
    simpa using Blk.new (((w.alloc (.cells #[.slice none 0 0] 59)).alloc (.cells #[.int .i64 0] 3)).alloc (.cells #[.bool false] 4)) 175 #[.slice A n c]
  have hrd : Rd w0 (w.heap.size + 3) bs := by
    refine ⟨A, c, by rw [hbl]; exact hd1, ?_, by omega, hc, by omega, hb⟩
    rw [hbl]
    exact (hr.below (hB0.mono hB)).more (by omega)
  have hg := getw1_any w0 (w.heap.size + 3) bs hrd
  have HW0 := Lib.hid hw0; have HA := Lib.hid ha; have HB1 := Lib.hid hb1; have HC1 := Lib.hid hc1; have HB0 := Lib.hid hB0
  clear hr hrd ha hb1 hc1 hd1 hb hB0
  cases hw : wordR bs with
  | none =>
    rw [hw] at hg
    have HG := Lib.hid hg
    clear hw0 hg
    go_enter_defers Tryz.func73, Tryz.ntmps73
    go_wp2_with fail
    rw [HW0.out]
    refine HG.out.mono ?_
    rintro e w1 ⟨h1, rfl⟩
    have hni : ∀ i, i < 3 → w.heap.size + i ∉ [w.heap.size + 3] := fun i hi hm => by simp at hm; omega
    refine leaves_cons (f := 147) (args := #[wptr w.heap.size, wptr (w.heap.size + 1), wptr (w.heap.size + 2)]) (by simp) (by simp [go_sem]) ?_
    refine (catchW_mal w.heap.size (w.heap.size + 1) (w.heap.size + 2) _ _ _ w1 (HA.out.chg h1 (hni 0 (by omega))) (HB1.out.chg h1 (hni 1 (by omega))) (HC1.out.chg h1 (hni 2 (by omega)))).mono ?_
    rintro e u' w2 ⟨rfl, ⟨pv, rfl⟩, k1, k2, k3, k4⟩
    have c1 := k1.cell 0
    have c2 := k2.cell 0
    have c3 := k3.cell 0
    simp only [List.getElem?_toArray, List.getElem?_cons_zero] at c1 c2 c3
    have hbel : Below w.heap.size w w2 := by
      refine (HB0.out.trans (h1.below (by simp) (by omega))).trans (k4.below (by simp) ?_)
      have := h1.size; omega
    simp [Leaves, settle, results, Tryz.results73, go_sem, c1, c2, c3]
    exact ⟨hbel, rfl⟩
  | some q =>
    obtain ⟨ws, r⟩ := q
    rw [hw] at hg
    have HG := Lib.hid hg
    clear hw0 hg
    go_enter_defers Tryz.func73, Tryz.ntmps73
    go_wp2_with fail
    rw [HW0.out]
    refine HG.out.mono ?_
    rintro e w1 ⟨h1, v, rfl, h2, h3⟩
    obtain ⟨A2, c2, rfl, _, _⟩ := ownsRow_form h2
    have hni : ∀ i, i < 3 → w.heap.size + i ∉ [w.heap.size + 3] := fun i hi hm => by simp at hm; omega
    have hs1 := h1.size
    have ka : Blk (w1.setCell ⟨w.heap.size, 0, none⟩ (.slice A2 ws.length c2)) w.heap.size 59 #[.slice A2 ws.length c2] := by simpa using (HA.out.chg h1 (hni 0 (by omega))).set_ 0 (.slice A2 ws.length c2)
    have kb : Blk (w1.setCell ⟨w.heap.size, 0, none⟩ (.slice A2 ws.length c2)) (w.heap.size + 1) 3 #[.int .i64 0] := (HB1.out.chg h1 (hni 1 (by omega))).far (p := ⟨w.heap.size, 0, none⟩) (by simp) _
    have kc : Blk (w1.setCell ⟨w.heap.size, 0, none⟩ (.slice A2 ws.length c2)) (w.heap.size + 1 + 1) 4 #[.bool false] := (HC1.out.chg h1 (hni 2 (by omega))).far (p := ⟨w.heap.size, 0, none⟩) (by simp) _
    obtain ⟨A3, c3, k1, k2, k3⟩ := h3
    have kd : Blk (w1.setCell ⟨w.heap.size, 0, none⟩ (.slice A2 ws.length c2)) (w.heap.size + 1 + 1 + 1) 175 #[.slice A3 r.length c3] := k1.far (p := ⟨w.heap.size, 0, none⟩) (by simp) _
    have kw : (w1.setCell ⟨w.heap.size, 0, none⟩ (.slice A2 ws.length c2)).ownsRow w0.heap.size 55 2 (.slice A2 ws.length c2) ws.length (ws.flatMap sndC) := ownsRow_setCell_below h2 (by simp; omega) _
    have kz : Below w.heap.size w (w1.setCell ⟨w.heap.size, 0, none⟩ (.slice A2 ws.length c2)) := (HB0.out.trans (h1.below (by simp) (by omega))).setCell (Nat.le_refl _) _
    have ca1 := (HA.out.chg h1 (hni 0 (by omega))).cell 0
    have fa1 := (HA.out.chg h1 (hni 0 (by omega))).frozen 0
    simp only [List.getElem?_toArray, List.getElem?_cons_zero] at ca1
    have KA := Lib.hid ka; have KB := Lib.hid kb; have KC := Lib.hid kc; have KD := Lib.hid kd; have KW := Lib.hid kw; have KZ := Lib.hid kz
    clear h1 h2 k1 k2 k3 ka kb kc kd kw kz hni hmf HW0 HA HB1 HC1 hs1
    go_wp2
    generalize w1.setCell ⟨w.heap.size, 0, none⟩ (.slice A2 ws.length c2) = w2 at *
    have g1 := KA.out.cell 0
    have g2 := KB.out.cell 0
    have g3 := KC.out.cell 0
    have g4 := KD.out.cell 0
    have f1 := KA.out.frozen 0
    have f2 := KB.out.frozen 0
    have f3 := KC.out.frozen 0
    simp only [List.getElem?_toArray, List.getElem?_cons_zero] at g1 g2 g3 g4
    clear ca1 fa1 hw
    have j1 : Blk (((w2.setCell ⟨w.heap.size, 0, none⟩ (.slice A2 ws.length c2)).setCell ⟨w.heap.size + 1, 0, none⟩ (.int .i64 r.length)).setCell ⟨w.heap.size + 1 + 1, 0, none⟩ (.bool true)) w.heap.size 59 #[.slice A2 ws.length c2] := by
      simpa using ((KA.out.set_ 0 (.slice A2 ws.length c2)).far (p := ⟨w.heap.size + 1, 0, none⟩) (by simp) (.int .i64 r.length)).far (p := ⟨w.heap.size + 1 + 1, 0, none⟩) (by simp; omega) (.bool true)
    have j2 : Blk (((w2.setCell ⟨w.heap.size, 0, none⟩ (.slice A2 ws.length c2)).setCell ⟨w.heap.size + 1, 0, none⟩ (.int .i64 r.length)).setCell ⟨w.heap.size + 1 + 1, 0, none⟩ (.bool true)) (w.heap.size + 1) 3 #[.int .i64 r.length] := by
      simpa using ((KB.out.far (p := ⟨w.heap.size, 0, none⟩) (by simp) (.slice A2 ws.length c2)).set_ 0 (.int .i64 r.length)).far (p := ⟨w.heap.size + 1 + 1, 0, none⟩) (by simp) (.bool true)
    have j3 : Blk (((w2.setCell ⟨w.heap.size, 0, none⟩ (.slice A2 ws.length c2)).setCell ⟨w.heap.size + 1, 0, none⟩ (.int .i64 r.length)).setCell ⟨w.heap.size + 1 + 1, 0, none⟩ (.bool true)) (w.heap.size + 1 + 1) 4 #[.bool true] := by
      simpa using ((KC.out.far (p := ⟨w.heap.size, 0, none⟩) (by simp; omega) (.slice A2 ws.length c2)).far (p := ⟨w.heap.size + 1, 0, none⟩) (by simp) (.int .i64 r.length)).set_ 0 (.bool true)
    have jw := ownsRow_setCell_below (ownsRow_setCell_below (ownsRow_setCell_below KW.out (a := ⟨w.heap.size, 0, none⟩) (by simp; omega) (.slice A2 ws.length c2)) (a := ⟨w.heap.size + 1, 0, none⟩) (by simp; omega) (.int .i64 r.length)) (a := ⟨w.heap.size + 1 + 1, 0, none⟩) (by simp; omega) (.bool true)
    have jb := ((KZ.out.setCell (p := ⟨w.heap.size, 0, none⟩) (Nat.le_refl _) (.slice A2 ws.length c2)).setCell (p := ⟨w.heap.size + 1, 0, none⟩) (Nat.le_succ _) (.int .i64 r.length)).setCell (p := ⟨w.heap.size + 1 + 1, 0, none⟩) (by simp; omega) (.bool true)
    have d1 := j1.cell 0
    have d2 := j2.cell 0
    have d3 := j3.cell 0
    simp only [List.getElem?_toArray, List.getElem?_cons_zero] at d1 d2 d3
    have JW := Lib.hid jw; have JB := Lib.hid jb; have D1 := Lib.hid d1; have D2 := Lib.hid d2; have D3 := Lib.hid d3
    clear j1 j2 j3 jw jb d1 d2 d3
    go_region
    go_wp2
    generalize ((w2.setCell ⟨w.heap.size, 0, none⟩ (.slice A2 ws.length c2)).setCell ⟨w.heap.size + 1, 0, none⟩ (.int .i64 r.length)).setCell ⟨w.heap.size + 1 + 1, 0, none⟩ (.bool true) = w3 at *
    refine leaves_cons (f := 147) (args := #[wptr w.heap.size, wptr (w.heap.size + 1), wptr (w.heap.size + 2)]) (by simp) (by simp [go_sem]) ?_
    refine (catchW_idle w.heap.size (w.heap.size + 1) (w.heap.size + 2) _).mono ?_
    rintro e u' w4 ⟨rfl, rfl, rfl⟩
    have E1 := D1.out
    have E2 := D2.out
    have E3 := D3.out
    simp [Leaves, settle, results, Tryz.results73, go_sem, E1, E2, E3]
    exact ⟨JB.out.drew, _, rfl, own_mono JW.out (by omega)⟩
end Go.Proofs.YtmepaeahchiglaaGreatDoor
namespace Go.Proofs.YtmepaeahchiglaaGreatDoor
open Go.RowKit Go.Lib

abbrev zeroL : List Value := [.string ⟨#[]⟩, .int .i64 0, .int .u32 0, .int .u32 0, .bool false, .int .i64 0, .int .i64 0, .slice none 0 0, .int .i64 0, .int .u32 0, .int .u32 0, .bool false, .int .i64 0, .int .i64 0, .slice none 0 0, .slice none 0 0, .slice none 0 0, .int .i64 0]
theorem leaves_congr {P : Program} {fn : Func} {R : Ending → World → Prop} {t t' : Array Value} (h : ∀ w, (results fn t').run P w = (results fn t).run P w) : ∀ (ds : List Deferred) (u : FrameMode) (w : World), Leaves P fn t R ds u w → Leaves P fn t' R ds u w
  | [], .returning, w, ⟨v, h1, h2⟩ => ⟨v, (h w).trans h1, h2⟩
  | [], .panicking _, _, h1 => h1
  | [], .run, _, h1 => h1
  | d :: ds, u, w, ⟨h1, fv, cap, f, args, h2, h3, h4⟩ => ⟨h1, fv, cap, f, args, h2, h3, h4.mono fun e u' w' h5 => by
      cases e with
      | returned x => exact leaves_congr h ds _ _ h5
      | panicked c => exact leaves_congr h ds _ _ h5
      | outgrown => exact h5⟩
end Go.Proofs.YtmepaeahchiglaaGreatDoor
namespace Go.Proofs.YtmepaeahchiglaaGreatDoor
open Go.RowKit Go.Lib

/-- A law of nothing. -/
def noL : Lw := ⟨⟨#[]⟩, .mk 0 (0, 0) false 0 0 [], .mk 0 (0, 0) false 0 0 [], [], [], 0⟩
theorem noL_cells (w : World) (S : Nat → Prop) : LawF w S noL zeroL :=
  ⟨patL 0 (0, 0) false 0 0 (.slice none 0 0), patL 0 (0, 0) false 0 0 (.slice none 0 0), none, 0, none, 0, rfl, patF_leaf w S 0 (0, 0) false 0 0 (by unfold ok32 is32; decide), patF_leaf w S 0 (0, 0) false 0 0 (by unfold ok32 is32; decide), ⟨rfl, fun h => absurd h (Nat.lt_irrefl _)⟩, ⟨rfl, fun h => absurd h (Nat.lt_irrefl _)⟩, (fun s hs => by cases hs), (fun s hs => by cases hs), by unfold maxLen; decide, by unfold maxLen; decide⟩
/-- What GetLaw returns: the law, how many bytes it has, the error. -/
def getL (bs : List Nat) : Lw × Nat × Int := match lawR bs with
  | none => (noL, 0, 10)
  | some (l, r) => if lawOk l then (l, bs.length - r.length, 0) else (noL, 0, 17)
def Short {α : Type} (get : Rdr α) : Prop := ∀ b x r, get b = some (x, r) → r.length ≤ b.length
theorem short_ret {α : Type} (x : α) : Short (fun r => some (x, r)) := fun b y r h => by
  injection h with h
  obtain ⟨_, rfl⟩ := Prod.mk.inj h
  exact Nat.le_refl _
theorem short_no {α : Type} : Short (fun _ => (none : Option (α × List Nat))) := fun b y r h => by cases h
theorem short_then {α β : Type} {g : Rdr α} {f : α → Rdr β} (h1 : Short g) (h2 : ∀ x, Short (f x)) : Short (thenR g f) := fun b y r h => by
  obtain ⟨x, s, e1, e2⟩ := thenR_out h
  exact Nat.le_trans (h2 x _ _ _ e2) (h1 _ _ _ e1)
theorem short_readK : ∀ f k acc, Short (readK f k acc)
  | 0, k, acc => fun b x r h => by cases h
  | f + 1, k, acc => fun b x r h => by
    cases b with
    | nil => cases h
    | cons b l =>
      have h' : (if 128 ≤ b then readK f (k + 1) (acc + 128 ^ k * (b % 128)) l else if (b = 0 ∧ 0 < k) ∨ 4294967296 ≤ acc + 128 ^ k * b then none else some (acc + 128 ^ k * b, l)) = some (x, r) := h
      rw [List.length_cons]
      split at h'
      · have := short_readK f _ _ _ _ _ h'; omega
      · split at h'
        · cases h'
        · injection h' with h'
          obtain ⟨_, rfl⟩ := Prod.mk.inj h'
          omega
theorem short_num : Short readN := short_readK _ _ _
theorem short_count : Short countR := short_then short_num fun n b x r h => by
  have h' : (if n ≤ b.length then some (n, b) else none) = some (x, r) := h
  split at h'
  · injection h' with h'
    obtain ⟨_, rfl⟩ := Prod.mk.inj h'
    exact Nat.le_refl _
  · cases h'
theorem short_snd : Short sndR := short_then short_num fun _ => short_then short_num fun _ => short_ret _
theorem short_flag : Short flagR := short_then short_num fun n b x r h => by
  have h' : (if 1 < n then none else some (decide (n = 1), b)) = some (x, r) := h
  split at h'
  · cases h'
  · injection h' with h'
    obtain ⟨_, rfl⟩ := Prod.mk.inj h'
    exact Nat.le_refl _
theorem short_many {α : Type} {get : Rdr α} (h : Short get) : ∀ n, Short (manyR get n)
  | 0 => short_ret _
  | n + 1 => short_then h fun _ => short_then (short_many h n) fun _ => short_ret _
theorem short_some {α : Type} {get : Rdr α} (h : Short get) : Short (someR get) := short_then short_count fun n => short_many h n
theorem short_manyS {get : Nat → Rdr (Pt × Nat)} (h : ∀ l, Short (get l)) : ∀ n l, Short (manyS get n l)
  | 0, _ => short_ret _
  | n + 1, l => short_then (h l) fun _ => short_then (short_manyS h n _) fun _ => short_ret _
theorem short_node {get : Nat → Rdr (Pt × Nat)} (h : ∀ l, Short (get l)) (left : Nat) : Short (nodeR get left) := short_then short_num fun k => by
  by_cases k1 : k = 1
  · rw [if_pos k1]; exact short_then short_snd fun _ => short_then short_flag fun _ => short_ret _
  · rw [if_neg k1]
    by_cases k3 : k = 3 ∨ k = 4
    · rw [if_pos k3]; exact short_then short_count fun n => short_then (short_manyS h n left) fun _ => short_ret _
    · rw [if_neg k3]
      by_cases k5 : k = 5
      · rw [if_pos k5]; exact short_then short_num fun _ => short_then short_num fun _ => short_then (short_manyS h 1 left) fun _ => short_ret _
      · rw [if_neg k5]; exact short_ret _
theorem short_pat : ∀ f left, Short (patR f left)
  | 0, _ => short_no
  | f + 1, 0 => fun b x r h => by rw [patR_zero] at h; cases h
  | f + 1, left + 1 => fun b x r h => by rw [patR_succ] at h; exact short_node (short_pat f) left b x r h
theorem short_text : Short textR := short_then short_count fun n b x r h => by
  injection h with h
  obtain ⟨_, rfl⟩ := Prod.mk.inj h
  rw [List.length_drop]; omega
theorem short_out : Short outR := short_then short_num fun _ => short_then short_num fun _ => short_then short_snd fun _ => short_then short_num fun _ => short_then short_num fun _ => short_ret _
theorem short_side : Short sideR := short_then (short_pat _ _) fun _ => short_ret _
theorem short_law : Short lawR := short_then short_text fun _ => short_then short_side fun _ => short_then short_side fun _ => short_then (short_some short_snd) fun _ => short_then (short_some short_out) fun _ => short_then short_num fun _ => short_ret _
end Go.Proofs.YtmepaeahchiglaaGreatDoor
