/-
 layer 43: reading that may end in a panic, caught: read at words; GetWord. Conditions: bytes that can be read.
-/
import Derived.Test.YtmepaeahchiglaaGreatDoorZdal
import Derived.Deep.RegionHeldLaw
set_option maxRecDepth 20000
set_option maxHeartbeats 2000000
namespace Go.Proofs.YtmepaeahchiglaaGreatDoor
open Go.RowKit Go.Lib
def Lp (T : TypeId) (a b c : Nat) (zero : Array Value) (w : World) (e : Ending) (u' : FrameMode) (w' : World) : Prop :=
 e = .returned (.tuple #[]) ∧ (∃ pv, u' = .panicking [{ v := pv, recovered := true }]) ∧ Blk w' a T zero ∧ Blk w' b 3 #[.int .i64 0] ∧ Blk w' c 4 #[.bool false] ∧ av [a, b, c] w w'
theorem uw (w : World) : (Instr.typeAssert (.iface 172 (.agg #[])) 20 172 true).run Tryz.prog w = .ok (.tuple #[.agg #[], .bool true]) w := by
 kernel_rfl
def FM (T : TypeId) (a b c : Nat) (zero : Array Value) (w : World) (ex : Exit) (act : Act) (w' : World) : Prop :=
 ex = .normal ∧ act.defers = [] ∧ Blk w' a T zero ∧ Blk w' b 3 #[.int .i64 0] ∧ Blk w' c 4 #[.bool false] ∧ av [a, b, c] w w'
theorem frame19 (a b c M : Value) : #[a, b, c] ++ ((Array.replicate 16 undef).setIfInBounds 4 M).setIfInBounds 0 M = #[a, b, c, M, undef, undef, undef, M, undef, undef, undef, undef, undef, undef, undef, undef, undef, undef, undef] := by
 apply Array.ext'
 simp [List.replicate_succ]
theorem Et (a b c : Nat) (x y z : Value) (w : World) (ha : Blk w a 59 #[x]) (hb : Blk w b 3 #[y]) (hc : Blk w c 4 #[z]) :
 CallsD Tryz.prog 147 #[af a, af b, af c] (.panicking zI) w (Lp 59 a b c #[.slice none 0 0] w) := by
 have QD : a ≠ b := ha.ne_ hb (by decide)
 have QC : a ≠ c := ha.ne_ hc (by decide)
 have QB : b ≠ c := hb.ne_ hc (by decide)
 have ga := ha.cell 0
 have gb := hb.cell 0
 have gc := hc.cell 0
 have fa := ha.frozen 0
 have fb := hb.frozen 0
 have fc := hc.frozen 0
 have la := ha.lt
 have lb := hb.lt
 have lc := hc.lt
 simp only [gq2] at ga gb gc
 refine callsD_of_wpS Tryz.func147 rfl fun c₀ cs hu => ?_
 apply wpS_seq
 apply wpS_region
 simp [wpOpsS, go_sem, recoverD, hu, Tryz.ntmps147, Exit.thenS]
 rw [frame19]
 refine wpS_of_wp (Code.wp_mono (Q := FM 59 a b c #[.slice none 0 0] w) ?_ ?_)
 ·rintro ex act w' ⟨rfl, h1, h2⟩
  exact ⟨h1, _, rfl, _, results_none rfl _ _ _, rfl, ⟨_, rfl⟩, h2⟩
 ·have Fe := uw
  have h1 := (((ha.set_ 0 (.slice none 0 0)).far (p := ⟨b, 0, none⟩) QD (.int .i64 0)).far (p := ⟨c, 0, none⟩) QC (.bool false)).alloc (.cells #[] 172)
  have h2 := (((hb.far (p := ⟨a, 0, none⟩) (Ne.symm QD) (.slice none 0 0)).set_ 0 (.int .i64 0)).far (p := ⟨c, 0, none⟩) QB (.bool false)).alloc (.cells #[] 172)
  have h3 := (((hc.far (p := ⟨a, 0, none⟩) (Ne.symm QC) (.slice none 0 0)).far (p := ⟨b, 0, none⟩) (Ne.symm QB) (.int .i64 0)).set_ 0 (.bool false)).alloc (.cells #[] 172)
  have h4 := ((((av.refl [a, b, c] w).setCell (p := ⟨a, 0, none⟩) (.inl (by simp)) (.slice none 0 0)).setCell (p := ⟨b, 0, none⟩) (.inl (by simp)) (.int .i64 0)).setCell (p := ⟨c, 0, none⟩) (.inl (by simp)) (.bool false)).alloc (.cells #[] 172)
  have H1 := qh h1; have H2 := qh h2; have H3 := qh h3; have H4 := qh h4
  clear h1 h2 h3 h4
  go_wp2
  exact ⟨rfl, rfl, by simpa using H1.out, by simpa using H2.out, by simpa using H3.out, H4.out⟩
theorem Cg (a b c : Nat) (w : World) :
 CallsD Tryz.prog 147 #[af a, af b, af c] .returning w fun e u' w' => e = .returned (.tuple #[]) ∧ u' = .returning ∧ w = w' := by
 refine callsD_of_wpS Tryz.func147 rfl fun c₀ cs hu => ?_
 apply wpS_seq
 apply wpS_region
 simp [wpOpsS, go_sem, recoverD, hu, Tryz.ntmps147, Exit.thenS]
 rw [frame19]
 refine wpS_of_wp (Code.wp_mono (Q := fun ex act w' => ex = .normal ∧ act.defers = [] ∧ w = w') ?_ ?_)
 ·rintro ex act w' ⟨rfl, h1, rfl⟩
  cases c₀
  simp only at hu
  subst hu
  exact ⟨h1, _, rfl, _, results_none rfl _ _ _, rfl, rfl, rfl⟩
 ·go_wp2
theorem GM (w : World) (g : Nat) (bs : List Nat) (h : Rd w g bs) :
 Calls Tryz.prog 74 #[af g] w (jM g (Aa w.heap.size) w (wordR bs)) := by
 have hc := nA w g bs h
 clear h
 cases hw : wordR bs with
 | none =>
   rw [hw] at hc
   go_enter Tryz.func74, Tryz.ntmps74
   go_wp2_with fail
   refine hc.mono ?_
   rintro e w1 ⟨h1, rfl⟩
   exact ⟨rfl, h1, rfl⟩
 | some q =>
   obtain ⟨ws, r⟩ := q
   rw [hw] at hc
   go_enter Tryz.func74, Tryz.ntmps74
   go_wp2_with fail
   refine hc.mono ?_
   rintro e w1 ⟨h1, v, rfl, h2, h3⟩
   have H1 := qh h1; have H2 := qh h2; have H3 := qh h3
   clear h1 h2 h3
   go_wp2
   go_ret
   exact ⟨H1.out, _, rfl, H2.out, H3.out⟩
def KI {α : Type} (val : α → World → Value → Prop) (zero : Value) (w : World) (o : Option (α × List Nat)) (e : Ending) (w' : World) : Prop :=
 Below w.heap.size w w' ∧ match o with
  | some (x, r) => ∃ v, e = .returned (.tuple #[v, .int .i64 r.length, .bool true]) ∧ val x w' v
  | none => e = .returned (.tuple #[zero, .int .i64 0, .bool false])
theorem Gu (w : World) (A : Option Addr) (n c B : Nat) (bs : List Nat) (hr : Reads w B 1 A n (bs.map bv)) (hB : B ≤ w.heap.size) (hn : n ≤ c) (hc : c ≤ maxLen) (hs : n ≤ 1073741824) (hb : ∀ b ∈ bs, b < 256) :
 Calls Tryz.prog 73 #[.slice A n c, .func (.func 74) #[] #[]] w (KI (Aa w.heap.size) (.slice none 0 0) w (wordR bs)) := by
 have Ms : ∀ (fn : Fn) (first cap : Array Value) (w : World), (Instr.makeFunc fn first cap).run Tryz.prog w = .ok (.func fn first cap) w := fun _ _ _ _ => rfl
 have hbl : bs.length = n := by have := hr.1; simpa using this
 obtain ⟨w0, hw0⟩ : ∃ w0, (((w.alloc (.cells #[.slice none 0 0] 59)).alloc (.cells #[.int .i64 0] 3)).alloc (.cells #[.bool false] 4)).alloc (.cells #[.slice A n c] 175) = w0 := ⟨_, rfl⟩
 have hsz : w0.heap.size = w.heap.size + 4 := by rw [← hw0]; simp
 have hB0 : Below w.heap.size w w0 := by
  rw [← hw0]
  exact ((((Below.refl _ w).alloc (Nat.le_refl _) _).alloc (by simp) _).alloc (by simp; omega) _).alloc (by simp; omega) _
 have ha : Blk w0 w.heap.size 59 #[.slice none 0 0] := by
  rw [← hw0]
  exact (((Blk.new w _ _).alloc _).alloc _).alloc _
 have hb1 : Blk w0 (w.heap.size + 1) 3 #[.int .i64 0] := by
  rw [← hw0]
  exact ((by simpa using Blk.new (w.alloc (.cells #[.slice none 0 0] 59)) 3 #[.int .i64 0] : Blk _ (w.heap.size + 1) _ _).alloc _).alloc _
 have hc1 : Blk w0 (w.heap.size + 2) 4 #[.bool false] := by
  rw [← hw0]
  exact (by simpa using Blk.new ((w.alloc (.cells #[.slice none 0 0] 59)).alloc (.cells #[.int .i64 0] 3)) 4 #[.bool false] : Blk _ (w.heap.size + 2) _ _).alloc _
 have hd1 : Blk w0 (w.heap.size + 3) 175 #[.slice A n c] := by
  rw [← hw0]
  simpa using Blk.new (((w.alloc (.cells #[.slice none 0 0] 59)).alloc (.cells #[.int .i64 0] 3)).alloc (.cells #[.bool false] 4)) 175 #[.slice A n c]
 have hrd : Rd w0 (w.heap.size + 3) bs := by
  refine ⟨A, c, by rw [hbl]; exact hd1, ?_, by omega, hc, by omega, hb⟩
  rw [hbl]
  exact (hr.below (hB0.mono hB)).more (by omega)
 have hg := GM w0 (w.heap.size + 3) bs hrd
 have HW0 := qh hw0; have HA := qh ha; have HB1 := qh hb1; have ow := qh hc1; have HB0 := qh hB0
 clear hr hrd ha hb1 hc1 hd1 hb hB0
 cases hw : wordR bs with
 | none =>
   rw [hw] at hg
   have HG := qh hg
   clear hw0 hg
   go_enter_defers Tryz.func73, Tryz.ntmps73
   go_wp2_with fail
   rw [HW0.out]
   refine HG.out.mono ?_
   rintro e w1 ⟨h1, rfl⟩
   have hni : ∀ i, i < 3 → w.heap.size + i ∉ [w.heap.size + 3] := fun i hi hm => by simp at hm; omega
   refine leaves_cons (f := 147) (args := #[af w.heap.size, af (w.heap.size + 1), af (w.heap.size + 2)]) (by simp) (by simp [go_sem]) ?_
   refine (Et w.heap.size (w.heap.size + 1) (w.heap.size + 2) _ _ _ w1 (HA.out.aB h1 (hni 0 (by omega))) (HB1.out.aB h1 (hni 1 (by omega))) (ow.out.aB h1 (hni 2 (by omega)))).mono ?_
   rintro e u' w2 ⟨rfl, ⟨pv, rfl⟩, k1, k2, k3, k4⟩
   have c1 := k1.cell 0
   have c2 := k2.cell 0
   have c3 := k3.cell 0
   simp only [gq2] at c1 c2 c3
   have dV : Below w.heap.size w w2 := by
    refine (HB0.out.trans (h1.below (by simp) (by omega))).trans (k4.below (by simp) ?_)
    have := h1.size; omega
   simp [Leaves, settle, results, Tryz.results73, go_sem, c1, c2, c3]
   exact ⟨dV, rfl⟩
 | some q =>
   obtain ⟨ws, r⟩ := q
   rw [hw] at hg
   have HG := qh hg
   clear hw0 hg
   go_enter_defers Tryz.func73, Tryz.ntmps73
   go_wp2_with fail
   rw [HW0.out]
   refine HG.out.mono ?_
   rintro e w1 ⟨h1, v, rfl, h2, h3⟩
   obtain ⟨A2, c2, rfl, _, _⟩ := ownsRow_form h2
   have hni : ∀ i, i < 3 → w.heap.size + i ∉ [w.heap.size + 3] := fun i hi hm => by simp at hm; omega
   have hs1 := h1.size
   have ka : Blk (w1.setCell ⟨w.heap.size, 0, none⟩ (.slice A2 ws.length c2)) w.heap.size 59 #[.slice A2 ws.length c2] := by simpa using (HA.out.aB h1 (hni 0 (by omega))).set_ 0 (.slice A2 ws.length c2)
   have kb : Blk (w1.setCell ⟨w.heap.size, 0, none⟩ (.slice A2 ws.length c2)) (w.heap.size + 1) 3 #[.int .i64 0] := (HB1.out.aB h1 (hni 1 (by omega))).far (p := ⟨w.heap.size, 0, none⟩) (by simp) _
   have kc : Blk (w1.setCell ⟨w.heap.size, 0, none⟩ (.slice A2 ws.length c2)) (w.heap.size + 1 + 1) 4 #[.bool false] := (ow.out.aB h1 (hni 2 (by omega))).far (p := ⟨w.heap.size, 0, none⟩) (by simp) _
   obtain ⟨A3, c3, k1, k2, k3⟩ := h3
   have kd : Blk (w1.setCell ⟨w.heap.size, 0, none⟩ (.slice A2 ws.length c2)) (w.heap.size + 1 + 1 + 1) 175 #[.slice A3 r.length c3] := k1.far (p := ⟨w.heap.size, 0, none⟩) (by simp) _
   have kw : (w1.setCell ⟨w.heap.size, 0, none⟩ (.slice A2 ws.length c2)).ownsRow w0.heap.size 55 2 (.slice A2 ws.length c2) ws.length (ws.flatMap gL) := ownsRow_setCell_below h2 (by simp; omega) _
   have kz : Below w.heap.size w (w1.setCell ⟨w.heap.size, 0, none⟩ (.slice A2 ws.length c2)) := (HB0.out.trans (h1.below (by simp) (by omega))).setCell (Nat.le_refl _) _
   have ca1 := (HA.out.aB h1 (hni 0 (by omega))).cell 0
   have fa1 := (HA.out.aB h1 (hni 0 (by omega))).frozen 0
   simp only [gq2] at ca1
   have KA := qh ka; have KB := qh kb; have KC := qh kc; have KD := qh kd; have KW := qh kw; have KZ := qh kz
   clear h1 h2 k1 k2 k3 ka kb kc kd kw kz hni Ms HW0 HA HB1 ow hs1
   go_wp2
   generalize w1.setCell ⟨w.heap.size, 0, none⟩ (.slice A2 ws.length c2) = w2 at *
   have g1 := KA.out.cell 0
   have g2 := KB.out.cell 0
   have g3 := KC.out.cell 0
   have g4 := KD.out.cell 0
   have f1 := KA.out.frozen 0
   have f2 := KB.out.frozen 0
   have f3 := KC.out.frozen 0
   simp only [gq2] at g1 g2 g3 g4
   clear ca1 fa1 hw
   have j1 : Blk (((w2.setCell ⟨w.heap.size, 0, none⟩ (.slice A2 ws.length c2)).setCell ⟨w.heap.size + 1, 0, none⟩ (.int .i64 r.length)).setCell ⟨w.heap.size + 1 + 1, 0, none⟩ (.bool true)) w.heap.size 59 #[.slice A2 ws.length c2] := by
    simpa using ((KA.out.set_ 0 (.slice A2 ws.length c2)).far (p := ⟨w.heap.size + 1, 0, none⟩) (by simp) (.int .i64 r.length)).far (p := ⟨w.heap.size + 1 + 1, 0, none⟩) (by simp; omega) (.bool true)
   have j2 : Blk (((w2.setCell ⟨w.heap.size, 0, none⟩ (.slice A2 ws.length c2)).setCell ⟨w.heap.size + 1, 0, none⟩ (.int .i64 r.length)).setCell ⟨w.heap.size + 1 + 1, 0, none⟩ (.bool true)) (w.heap.size + 1) 3 #[.int .i64 r.length] := by
    simpa using ((KB.out.far (p := ⟨w.heap.size, 0, none⟩) (by simp) (.slice A2 ws.length c2)).set_ 0 (.int .i64 r.length)).far (p := ⟨w.heap.size + 1 + 1, 0, none⟩) (by simp) (.bool true)
   have j3 : Blk (((w2.setCell ⟨w.heap.size, 0, none⟩ (.slice A2 ws.length c2)).setCell ⟨w.heap.size + 1, 0, none⟩ (.int .i64 r.length)).setCell ⟨w.heap.size + 1 + 1, 0, none⟩ (.bool true)) (w.heap.size + 1 + 1) 4 #[.bool true] := by
    simpa using ((KC.out.far (p := ⟨w.heap.size, 0, none⟩) (by simp; omega) (.slice A2 ws.length c2)).far (p := ⟨w.heap.size + 1, 0, none⟩) (by simp) (.int .i64 r.length)).set_ 0 (.bool true)
   have jw := ownsRow_setCell_below (ownsRow_setCell_below (ownsRow_setCell_below KW.out (a := ⟨w.heap.size, 0, none⟩) (by simp; omega) (.slice A2 ws.length c2)) (a := ⟨w.heap.size + 1, 0, none⟩) (by simp; omega) (.int .i64 r.length)) (a := ⟨w.heap.size + 1 + 1, 0, none⟩) (by simp; omega) (.bool true)
   have jb := ((KZ.out.setCell (p := ⟨w.heap.size, 0, none⟩) (Nat.le_refl _) (.slice A2 ws.length c2)).setCell (p := ⟨w.heap.size + 1, 0, none⟩) (Nat.le_succ _) (.int .i64 r.length)).setCell (p := ⟨w.heap.size + 1 + 1, 0, none⟩) (by simp; omega) (.bool true)
   have d1 := j1.cell 0
   have d2 := j2.cell 0
   have d3 := j3.cell 0
   simp only [gq2] at d1 d2 d3
   have JW := qh jw; have JB := qh jb; have D1 := qh d1; have D2 := qh d2; have D3 := qh d3
   clear j1 j2 j3 jw jb d1 d2 d3
   go_region
   go_wp2
   generalize ((w2.setCell ⟨w.heap.size, 0, none⟩ (.slice A2 ws.length c2)).setCell ⟨w.heap.size + 1, 0, none⟩ (.int .i64 r.length)).setCell ⟨w.heap.size + 1 + 1, 0, none⟩ (.bool true) = w3 at *
   refine leaves_cons (f := 147) (args := #[af w.heap.size, af (w.heap.size + 1), af (w.heap.size + 2)]) (by simp) (by simp [go_sem]) ?_
   refine (Cg w.heap.size (w.heap.size + 1) (w.heap.size + 2) _).mono ?_
   rintro e u' w4 ⟨rfl, rfl, rfl⟩
   have E1 := D1.out
   have E2 := D2.out
   have E3 := D3.out
   simp [Leaves, settle, results, Tryz.results73, go_sem, E1, E2, E3]
   exact ⟨JB.out.drew, _, rfl, dh JW.out (by omega)⟩
theorem lF {P : Program} {fn : Func} {R : Ending → World → Prop} {t t' : Array Value} (h : ∀ w, (results fn t').run P w = (results fn t).run P w) : ∀ (ds : List Deferred) (u : FrameMode) (w : World), Leaves P fn t R ds u w → Leaves P fn t' R ds u w
 | [], .returning, w, ⟨v, h1, h2⟩ => ⟨v, (h w).trans h1, h2⟩
 | [], .panicking _, _, h1 => h1
 | [], .run, _, h1 => h1
 | d :: ds, u, w, ⟨h1, fv, cap, f, args, h2, h3, h4⟩ => ⟨h1, fv, cap, f, args, h2, h3, h4.mono fun e u' w' h5 => by
    cases e with
    | returned x => exact lF h ds _ _ h5
    | panicked c => exact lF h ds _ _ h5
    | outgrown => exact h5⟩
def vZ {α : Type} (get : Rdr α) : Prop := ∀ b x r, get b = some (x, r) → r.length ≤ b.length
theorem uf {α β : Type} {g : Rdr α} {f : α → Rdr β} (h1 : vZ g) (h2 : ∀ x, vZ (f x)) : vZ (thenR g f) := fun b y r h => by
 obtain ⟨x, s, e1, e2⟩ := thenR_out h
 exact Nat.le_trans (h2 x _ _ _ e2) (h1 _ _ _ e1)
theorem rO : ∀ f k acc, vZ (readK f k acc)
 | 0, k, acc => fun b x r h => by cases h
 | f + 1, k, acc => fun b x r h => by
   cases b with
   | nil => cases h
   | cons b l =>
     have h' : (if 128 ≤ b then readK f (k + 1) (acc + 128 ^ k * (b % 128)) l else if (b = 0 ∧ 0 < k) ∨ 4294967296 ≤ acc + 128 ^ k * b then none else some (acc + 128 ^ k * b, l)) = some (x, r) := h
     rw [List.length_cons]
     split at h'
     ·have := rO f _ _ _ _ _ h'; omega
     ·split at h'
      ·cases h'
      ·injection h' with h'
       obtain ⟨_, rfl⟩ := Prod.mk.inj h'
       omega
theorem Gf : vZ readN := rO _ _ _
theorem Ay : vZ countR := uf Gf fun n b x r h => by
 have h' : (if n ≤ b.length then some (n, b) else none) = some (x, r) := h
 split at h'
 ·injection h' with h'
  obtain ⟨_, rfl⟩ := Prod.mk.inj h'
  exact Nat.le_refl _
 ·cases h'
theorem C9 : vZ bg := uf Ay fun n b x r h => by
 injection h with h
 obtain ⟨_, rfl⟩ := Prod.mk.inj h
 rw [List.length_drop]; omega
def lC : Rdr fw := thenR bg fun s => thenR sndR fun x r => some ((s, x), r)
def lX : Rdr Mk := thenR bg fun s => thenR readN fun c => thenR sndR fun x r => some (⟨s, c, x⟩, r)
def CF : Rdr Nd := thenR readN fun k => thenR bg fun s r => some (((k : Int) - 1, s), r)
def lG : Rdr Int := thenR readN fun k r => some ((k : Int), r)
def gG : Rdr Fm := thenR jZ fun h => if h = true then thenR wordR fun x r => some (⟨true, x⟩, r) else fun r => some (⟨false, []⟩, r)
def Ce : Rdr En := thenR bg fun s => thenR (someR gG) fun l r => some (⟨s, l⟩, r)
structure Hs where
 tree : List Nd
 au : List Lw
 on : List (List Int)
def qa : Rdr Hs := thenR (someR CF) fun t => thenR (someR jH) fun l => thenR (manyR (someR lG) t.length) fun o r => some (⟨t, l, o⟩, r)
def iN : Rdr Pj := thenR (someR bg) fun f => thenR (someR lC) fun s => thenR (someR lX) fun m => thenR qa fun h => thenR (someR gG) fun p => thenR (someR Ce) fun e r => some (⟨f, s, m, h.tree, h.au, h.on, p, e⟩, r)
def lQ {α : Type} (get : Rdr α) (P : α → Nat → Prop) : Prop := ∀ b x r, (∀ c ∈ b, c < 256) → get b = some (x, r) → P x b.length ∧ (∀ c ∈ r, c < 256) ∧ r.length ≤ b.length
section
variable {α β : Type} {g : Rdr α} {f : α → Rdr β} {P : α → Nat → Prop} {Q : β → Nat → Prop}
theorem eU {x y : α} {b r : List Nat} (h : some (x, b) = some (y, r)) (hb : ∀ c ∈ b, c < 256) : x = y ∧ (∀ c ∈ r, c < 256) ∧ r.length ≤ b.length := by
 injection h with h
 obtain ⟨e, rfl⟩ := Prod.mk.inj h
 exact ⟨e, hb, Nat.le_refl _⟩
end
theorem oZ : lQ readN fun n _ => is32 n := fun b x r hb h => by
 obtain ⟨e, h1⟩ := readN_bytes hb h
 exact ⟨h1, fun c hc => hb c (by rw [e]; simp [hc]), by rw [e, List.length_append]; omega⟩
theorem oC : lQ countR fun n m => n ≤ m := fun b x r hb h => by
 have h0 := h
 unfold countR at h
 obtain ⟨n, s, e1, e2⟩ := thenR_out h
 obtain ⟨p1, p2, p3⟩ := oZ b n s hb e1
 by_cases hle : n ≤ s.length
 ·rw [if_pos hle] at e2
  injection e2 with e2
  obtain ⟨rfl, rfl⟩ := Prod.mk.inj e2
  exact ⟨by omega, p2, p3⟩
 ·rw [if_neg hle] at e2; cases e2
theorem tZ : lQ sndR fun s _ => ok32 s := fun b x r hb h => by
 obtain ⟨e, h1⟩ := canon_snd b x r hb h
 exact ⟨h1, fun c hc => hb c (by rw [e]; simp [hc]), by rw [e, List.length_append]; omega⟩
theorem jh : lQ bg fun s m => s.size ≤ m := fun b x r hb h => by
 refine ⟨tX h hb, ?_, C9 _ _ _ h⟩
 unfold bg at h
 obtain ⟨n, s, e1, e2⟩ := thenR_out h
 obtain ⟨p1, p2, p3⟩ := oC b n s hb e1
 injection e2 with e2
 obtain ⟨-, rfl⟩ := Prod.mk.inj e2
 exact fun c hc => p2 c (List.mem_of_mem_drop hc)
theorem qG {α : Type} {g : Rdr α} {P : α → Nat → Prop} (h : lQ g P) (hm : ∀ x n m, P x n → n ≤ m → P x m) : ∀ n, lQ (manyR g n) fun l m => l.length = n ∧ ∀ x ∈ l, P x m
 | 0 => fun b x r hb e => by
   obtain ⟨rfl, h2, h3⟩ := eU (show some (([] : List α), b) = some (x, r) from e) hb
   exact ⟨⟨rfl, fun x hx => by cases hx⟩, h2, h3⟩
 | n + 1 => fun b y r hb e => by
   obtain ⟨x, s, e1, e⟩ := thenR_out (show thenR g (fun x => thenR (manyR g n) fun l r => some (x :: l, r)) b = some (y, r) from e)
   obtain ⟨l, t, e2, e⟩ := thenR_out e
   obtain ⟨p1, p2, p3⟩ := h b x s hb e1
   obtain ⟨⟨q0, q1⟩, q2, q3⟩ := qG h hm n s l t p2 e2
   obtain ⟨rfl, h2, h3⟩ := eU e q2
   refine ⟨⟨by rw [List.length_cons, q0], fun z hz => ?_⟩, h2, by omega⟩
   rcases List.mem_cons.1 hz with rfl | hz
   ·exact p1
   ·exact hm _ _ _ (q1 z hz) p3
theorem dY {α : Type} {g : Rdr α} {P : α → Nat → Prop} (h : lQ g P) (hm : ∀ x n m, P x n → n ≤ m → P x m) : lQ (someR g) fun l m => l.length ≤ m ∧ ∀ x ∈ l, P x m := fun b y r hb e => by
 obtain ⟨n, s, e1, e2⟩ := thenR_out (show thenR countR (fun n => manyR g n) b = some (y, r) from e)
 obtain ⟨p1, p2, p3⟩ := oC b n s hb e1
 obtain ⟨⟨q0, q1⟩, q2, q3⟩ := qG h hm n s y r p2 e2
 exact ⟨⟨by omega, fun z hz => hm _ _ _ (q1 z hz) p3⟩, q2, by omega⟩
section
variable {α : Type} {F F' : World → (Nat → Prop) → α → List Value → Prop} {w w' : World} {S S' : Nat → Prop}
def cK (F : World → (Nat → Prop) → α → List Value → Prop) (w : World) (S : Nat → Prop) : List α → List Value → Prop
 | [], xs => xs = []
 | x :: l, xs => ∃ c1 c2, xs = c1 ++ c2 ∧ F w S x c1 ∧ cK F w S l c2
theorem cK.imp : ∀ {l : List α} {xs : List Value}, cK F w S l xs → (∀ x cs, F w S x cs → F' w' S' x cs) → cK F' w' S' l xs
 | [], _, h, _ => h
 | x :: _, _, ⟨c1, c2, e, h1, h2⟩, hi => ⟨c1, c2, e, hi x c1 h1, cK.imp h2 hi⟩
theorem cK.append {x : α} {c2 : List Value} (h2 : F w S x c2) : ∀ {l : List α} {c1 : List Value}, cK F w S l c1 → cK F w S (l ++ [x]) (c1 ++ c2)
 | [], c1, h => by
   subst h
   exact ⟨c2, [], by simp, h2, rfl⟩
 | y :: l, c1, ⟨d1, d2, e, k1, k2⟩ => ⟨d1, d2 ++ c2, by rw [e, List.append_assoc], k1, cK.append h2 k2⟩
theorem cK.toC {P : World → Nat → α → List Value → Prop} {B : Nat} (hi : ∀ x cs, F w S x cs → P w B x cs) : ∀ {l : List α} {xs : List Value}, cK F w S l xs → lW P w B l xs
 | [], _, h => h
 | x :: _, _, ⟨c1, c2, e, h1, h2⟩ => ⟨c1, c2, e, hi x c1 h1, cK.toC hi h2⟩
def dw (F : World → (Nat → Prop) → α → List Value → Prop) (k : Nat) (w : World) (S : Nat → Prop) (l : List α) (v : Value) : Prop :=
 ∃ A c xs, v = .slice A l.length c ∧ (l.length ≤ c ∧ c ≤ maxLen) ∧ jQ w S k A l.length xs ∧ cK F w S l xs
theorem dw.imp {k : Nat} {l : List α} {v : Value} (h : dw F k w S l v) (hs : ∀ b, S b → S' b) (hk : ∀ q : Addr, S q.block → w'.cell? q = w.cell? q) (hi : ∀ x cs, F w S x cs → F' w' S' x cs) : dw F' k w' S' l v := by
 obtain ⟨A, c, xs, e, h1, h2, h3⟩ := h
 exact ⟨A, c, xs, e, h1, h2.keep hs hk, h3.imp hi⟩
theorem dw.toC {P : World → Nat → α → List Value → Prop} {B k : Nat} {l : List α} {v : Value} (h : dw F k w S l v) (hs : ∀ b, S b → b < B) (hi : ∀ x cs, F w S x cs → P w B x cs) : aP P k w B l v := by
 obtain ⟨A, c, xs, e, h1, h2, h3⟩ := h
 exact ⟨A, c, xs, e, h1, h2.reads hs, h3.toC hi⟩
theorem dw.form {k : Nat} {l : List α} {v : Value} (h : dw F k w S l v) : ∃ A c, v = .slice A l.length c := by
 obtain ⟨A, c, xs, e, _⟩ := h
 exact ⟨A, c, e⟩
theorem iJ (F : World → (Nat → Prop) → α → List Value → Prop) (k : Nat) (w : World) (S : Nat → Prop) : dw F k w S [] (.slice none 0 0) :=
 ⟨none, 0, [], rfl, ⟨Nat.le_refl _, by unfold maxLen; omega⟩, ⟨by simp, fun h => absurd h (Nat.lt_irrefl _)⟩, rfl⟩
theorem nz {k base : Nat} {t : TypeId} {l : List α} {v : Value} {xs : List Value} (ho : w.ownsRow base t k v l.length xs) (hv : ∀ b, v.ownBlock = some b → S b) (hp : cK F w S l xs) : dw F k w S l v := by
 obtain ⟨A, c, rfl, h1, h2, h3⟩ := jE ho
 exact ⟨A, c, xs, rfl, ⟨h1, h2⟩, h3.keep hv (fun _ _ => rfl), hp⟩
end
def jN {α : Type} (f : α → List Value) (_ : World) (_ : Nat → Prop) (x : α) (cs : List Value) : Prop := cs = f x
theorem oO {α : Type} {f : α → List Value} {w : World} {S : Nat → Prop} : ∀ (l : List α), cK (jN f) w S l (l.flatMap f)
 | [] => rfl
 | x :: l => ⟨f x, l.flatMap f, List.flatMap_cons, rfl, oO l⟩
abbrev xm := jN fun s : ByteArray => [Value.string s]
abbrev xn := jN eP
abbrev wC := jN ib
abbrev LC := jN fun x : Nd => [Value.int .i64 x.1, Value.string x.2]
abbrev xu := jN fun k : Int => [Value.int .i64 k]
abbrev Pe := jN gL
def zG (w : World) (S : Nat → Prop) (l : List Int) (cs : List Value) : Prop := ∃ v, cs = [v] ∧ dw xu 1 w S l v
def bP (w : World) (S : Nat → Prop) (f : Fm) (cs : List Value) : Prop := ∃ v, cs = [.bool f.has, v] ∧ dw Pe 2 w S f.w v
def xB (w : World) (S : Nat → Prop) (x : En) (cs : List Value) : Prop := ∃ v, cs = [.string x.bX, v] ∧ dw bP 2 w S x.bU v
def VB (w : World) (S : Nat → Prop) (h : Hs) (cs : List Value) : Prop := ∃ v4 v5 v6, cs = [v4, v5, v6] ∧ dw LC 2 w S h.tree v4 ∧ dw iH 18 w S h.au v5 ∧ dw zG 1 w S h.on v6
def dF (w : World) (S : Nat → Prop) (p : Pj) (cs : List Value) : Prop := ∃ v1 v2 v3 v4 v5 v6 v7 v8, cs = [v1, v2, v3, v4, v5, v6, v7, v8] ∧
 dw xm 1 w S p.aK v1 ∧ dw xn 3 w S p.aG v2 ∧ dw wC 4 w S p.marks v3 ∧ dw LC 2 w S p.tree v4 ∧ dw iH 18 w S p.au v5 ∧ dw zG 1 w S p.on v6 ∧ dw bP 2 w S p.aA v7 ∧ dw xB 2 w S p.entries v8
section
variable {w w' : World} {S S' : Nat → Prop} (hs : ∀ b, S b → S' b) (hk : ∀ q : Addr, S q.block → w'.cell? q = w.cell? q)
include hs hk
theorem dw.plain {α : Type} {f : α → List Value} {k : Nat} {l : List α} {v : Value} (h : dw (jN f) k w S l v) : dw (jN f) k w' S' l v := h.imp hs hk fun _ _ h => h
theorem zG.keep {l : List Int} {cs : List Value} (h : zG w S l cs) : zG w' S' l cs := by
 obtain ⟨v, e, h⟩ := h
 exact ⟨v, e, dw.plain hs hk h⟩
theorem bP.keep {f : Fm} {cs : List Value} (h : bP w S f cs) : bP w' S' f cs := by
 obtain ⟨v, e, h⟩ := h
 exact ⟨v, e, dw.plain hs hk h⟩
theorem xB.keep {x : En} {cs : List Value} (h : xB w S x cs) : xB w' S' x cs := by
 obtain ⟨v, e, h⟩ := h
 exact ⟨v, e, h.imp hs hk fun _ _ h => bP.keep hs hk h⟩
theorem dF.keep {p : Pj} {cs : List Value} (h : dF w S p cs) : dF w' S' p cs := by
 obtain ⟨v1, v2, v3, v4, v5, v6, v7, v8, e, h1, h2, h3, h4, h5, h6, h7, h8⟩ := h
 exact ⟨v1, v2, v3, v4, v5, v6, v7, v8, e, dw.plain hs hk h1, dw.plain hs hk h2, dw.plain hs hk h3, dw.plain hs hk h4, h5.imp hs hk fun _ _ h => h.keep hs hk, h6.imp hs hk fun _ _ h => zG.keep hs hk h, h7.imp hs hk fun _ _ h => bP.keep hs hk h, h8.imp hs hk fun _ _ h => xB.keep hs hk h⟩
end
section
variable {w : World} {S : Nat → Prop} {B : Nat} (hs : ∀ b, S b → b < B)
include hs
theorem bP.toC {f : Fm} {cs : List Value} (h : bP w S f cs) : bn w B f cs := by
 obtain ⟨v, e, h⟩ := h
 exact ⟨v, e, h.toC hs fun _ _ h => h⟩
theorem dF.toC {p : Pj} {cs : List Value} (h : dF w S p cs) : dx w B p cs := by
 obtain ⟨v1, v2, v3, v4, v5, v6, v7, v8, e, h1, h2, h3, h4, h5, h6, h7, h8⟩ := h
 refine ⟨v1, v2, v3, v4, v5, v6, v7, v8, e, h1.toC hs fun _ _ h => h, h2.toC hs fun _ _ h => h, h3.toC hs fun _ _ h => h, h4.toC hs fun _ _ h => h, h5.toC hs fun _ _ h => h.toC hs, h6.toC hs fun _ _ h => ?_, h7.toC hs fun _ _ h => bP.toC hs h, h8.toC hs fun _ _ h => ?_⟩
 ·obtain ⟨v, e, h⟩ := h
  exact ⟨v, e, h.toC hs fun _ _ h => h⟩
 ·obtain ⟨v, e, h⟩ := h
  exact ⟨v, e, h.toC hs fun _ _ h => bP.toC hs h⟩
end
abbrev dW (w W : World) : Nat → Prop := fun b => w.heap.size ≤ b ∧ b < W.heap.size
abbrev fo (cs : List Value) : Value := .agg cs.toArray
abbrev Mh (cs : List Value) : Value := cs.headD undef
def dn {α : Type} (g : Nat) (F : World → (Nat → Prop) → α → List Value → Prop) (mk : List Value → Value) (w : World) (o : Option (α × List Nat)) (e : Ending) (w' : World) : Prop :=
 av [g] w w' ∧ match o with
  | some (x, r) => ∃ cs, e = .returned (mk cs) ∧ F w' (dW w w') x cs ∧ Rd w' g r
  | none => e = .panicked zI
def fu {α : Type} (g k : Nat) (F : World → (Nat → Prop) → α → List Value → Prop) (w : World) (o : Option (List α × List Nat)) (e : Ending) (w' : World) : Prop :=
 av [g] w w' ∧ match o with
  | some (l, r) => ∃ v, e = .returned v ∧ dw F k w' (dW w w') l v ∧ Rd w' g r
  | none => e = .panicked zI
theorem Hg (a : Addr) : a.add 0 = a := by unfold Addr.add; rw [if_pos rfl]
theorem add_add (a : Addr) (n j : Nat) : (a.add n).add j = a.add (n + j) := by
 cases j with
 | zero => rw [Hg, Nat.add_zero]
 | succ j =>
   rw [aH a n j]
   unfold Addr.add
   rw [if_neg (by omega)]
theorem rV {ops : Array Oper} {rest : List Oper} {o : Oper} {a : Act} {w : World} {Q : Exit → Act → World → Prop} (hgd : o.guard = none) (x : Operand) (ho : o.op = .load 62 x)
 (q : Addr) (hx : a.eval x = .pointer (some q)) (cs : List Value) (hlen : cs.length = 18) (hc : ∀ j u, cs[j]? = some u → w.cell? (q.add j) = some u)
 (h : wpList Tryz.prog ops Q rest (a.put o.dst (.agg cs.toArray)) w) : wpList Tryz.prog ops Q (o :: rest) a w := by
 obtain ⟨fs, hfs⟩ := nK
 refine wpList_plain hgd fun _ hK => ?_
 have hl : (loadCells q cs.length).run Tryz.prog w = .ok cs.toArray w := run_loadCells_list w q cs hc
 have hrun : (loadVar 62 q).run Tryz.prog w = .ok (.agg cs.toArray) w := by
  have hi := kU
  cases hq : Tryz.prog.info? 62 with
  | none => rw [hq] at hi; cases hi
  | some i =>
    have hs : i.size = cs.length := by rw [hq] at hi; rw [hlen]; exact Option.some.inj hi
    have hagg : (isAgg 62).run Tryz.prog w = .ok true w := by
     unfold isAgg
     rw [Sem.run_bind, run_underlying hfs w]
     simp
    simp [loadVar, Sem.run_bind, hagg, sizeOf, typeInfo, hq, hs, hl]
 unfold Oper.wp execOp
 simp only [ho, hx, Instr.loadAt, Instr.sureAddr, Sem.run_bind, Sem.run_pure, Result.andThen_ok, hrun]
 exact hK _ _ h
theorem DU {ops : Array Oper} {rest : List Oper} {o : Oper} {a : Act} {w : World} {Q : Exit → Act → World → Prop} (hgd : o.guard = none) (x y : Operand) (ho : o.op = .store 62 x y)
 (g : Nat) (hx : a.eval x = .pointer (some ⟨g, 0, none⟩)) (cs old : List Value) (hy : a.eval y = .agg cs.toArray) (hlen : cs.length = 18) (h1 : ∀ u ∈ cs, u.oneCell' = true) (hg : Blk w g 62 old.toArray) (hold : old.length = 18)
 (h : wpList Tryz.prog ops Q rest (a.put o.dst undef) (w.setRow g cs.toArray)) : wpList Tryz.prog ops Q (o :: rest) a w :=
 wpList_store_row hgd _ x y ho g cs.toArray hx hy _ old.toArray hg (by rw [kU, List.size_toArray, hlen]) (by rw [List.size_toArray, List.size_toArray, hlen, hold]) (Array.all_eq_true_iff_forall_mem.2 (fun v hv => h1 v (by simpa using hv))) h
theorem Jy {w : World} {B : Nat} {l : Lw} {cs : List Value} (h : fI w B l cs) : ∀ u ∈ cs, u.oneCell' = true := by
 obtain ⟨k1, s1, n1, lo1, hi1, A1, m1, c1, k2, s2, n2, lo2, hi2, A2, m2, c2, A3, c3, A4, c4, rfl, -⟩ := h.form
 intro u hu
 simp only [Mq, List.mem_cons, List.not_mem_nil, or_false] at hu
 rcases hu with rfl | rfl | rfl | rfl | rfl | rfl | rfl | rfl | rfl | rfl | rfl | rfl | rfl | rfl | rfl | rfl | rfl | rfl <;> rfl
abbrev Od : List Value := [.string ⟨#[]⟩, .int .i64 0, .int .u32 0, .int .u32 0, .bool false, .int .i64 0, .int .i64 0, .slice none 0 0, .int .i64 0, .int .u32 0, .int .u32 0, .bool false, .int .i64 0, .int .i64 0, .slice none 0 0, .slice none 0 0, .slice none 0 0, .int .i64 0]
theorem yY (w : World) (t : TypeId) (old cs : Array Value) : (w.alloc (.cells old t)).setRow w.heap.size cs = w.alloc (.cells cs t) := by
 unfold World.setRow World.alloc
 congr 1
 apply Array.ext
 ·simp
 ·intro i h1 h2
  rw [Array.getElem_modify]
  by_cases e : w.heap.size = i
  ·subst e
   simp
  ·rw [if_neg e]
   simp only [Array.size_modify, Array.size_push] at h1
   rw [Array.getElem_push_lt (by omega), Array.getElem_push_lt (by omega)]
end Go.Proofs.YtmepaeahchiglaaGreatDoor
