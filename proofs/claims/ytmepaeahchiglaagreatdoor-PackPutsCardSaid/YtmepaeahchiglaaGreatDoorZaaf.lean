/-
  layer 43: the writer's law. Conditions: a valid law that can be read.
-/
import Derived.Test.YtmepaeahchiglaaGreatDoorZaae
import Derived.Test.YtmepaeahchiglaaGreatDoorZaab
import Derived.Test.YtmepaeahchiglaaGreatDoorProg
import Derived.Test.YtmepaeahchiglaaGreatDoorZaaa
import Derived.Maps.Own
import Derived.Maps.OwnSet
import Derived.Maps.OwnOps
namespace Go.Proofs.YtmepaeahchiglaaGreatDoor
open Go.RowKit Go.Lib

/-- A law: Name, Left, Right, If, Out, Mode. -/
structure Lw where
  name : ByteArray
  left : Pt
  right : Pt
  ifs : List Snd
  outs : List Ot
  mode : Int
def lawB (l : Lw) : List Nat := textB l.name ++ (patB l.left ++ (patB l.right ++ (wordB l.ifs ++ (outsB l.outs ++ numB l.mode.toNat))))
/-- The cells of a law, whose parts lie below block B. -/
def LawC (w : World) (B : Nat) (l : Lw) (cs : List Value) : Prop := ∃ q1 q2 A3 c3 A4 c4, cs = .string l.name :: (q1 ++ (q2 ++ [.slice A3 l.ifs.length c3, .slice A4 l.outs.length c4, .int .i64 l.mode])) ∧ PatC w B l.left q1 ∧ PatC w B l.right q2 ∧
  Reads w B 2 A3 l.ifs.length (l.ifs.flatMap sndC) ∧ Reads w B 6 A4 l.outs.length (l.outs.flatMap outC) ∧ (∀ s ∈ l.ifs, ok32 s) ∧ (∀ x ∈ l.outs, is32 x.clear ∧ ok32 x.set ∧ is32 x.take) ∧ l.ifs.length ≤ maxLen ∧ l.outs.length ≤ maxLen
theorem LawC.keep {w w' : World} {B : Nat} {l : Lw} {cs : List Value} (h : LawC w B l cs) (hk : ∀ p : Addr, p.block < B → w'.cell? p = w.cell? p) : LawC w' B l cs := by
  obtain ⟨q1, q2, A3, c3, A4, c4, h1, h2, h3, h4, h5, h6⟩ := h
  exact ⟨q1, q2, A3, c3, A4, c4, h1, h2.keep hk _ _, h3.keep hk _ _, h4.keep hk, h5.keep hk, h6⟩
theorem LawC.below {w w' : World} {B : Nat} {l : Lw} {cs : List Value} (h : LawC w B l cs) (hb : Below B w w') : LawC w' B l cs := h.keep fun _ hp => hb.cell hp
theorem LawC.more {w : World} {B B' : Nat} {l : Lw} {cs : List Value} (h : LawC w B l cs) (hb : B ≤ B') : LawC w B' l cs := by
  obtain ⟨q1, q2, A3, c3, A4, c4, h1, h2, h3, h4, h5, h6⟩ := h
  exact ⟨q1, q2, A3, c3, A4, c4, h1, h2.more hb _ _, h3.more hb _ _, h4.more hb, h5.more hb, h6⟩
abbrev lawL (nm : ByteArray) (k1 : Int) (s1 : Snd) (n1 : Bool) (lo1 hi1 : Int) (A1 : Option Addr) (m1 c1 : Nat) (k2 : Int) (s2 : Snd) (n2 : Bool) (lo2 hi2 : Int) (A2 : Option Addr) (m2 c2 : Nat) (A3 : Option Addr) (m3 c3 : Nat) (A4 : Option Addr) (m4 c4 : Nat) (mode : Int) : List Value := [.string nm, .int .i64 k1, .int .u32 s1.1, .int .u32 s1.2, .bool n1, .int .i64 lo1, .int .i64 hi1, .slice A1 m1 c1, .int .i64 k2, .int .u32 s2.1, .int .u32 s2.2, .bool n2, .int .i64 lo2, .int .i64 hi2, .slice A2 m2 c2, .slice A3 m3 c3, .slice A4 m4 c4, .int .i64 mode]
theorem LawC.form {w : World} {B : Nat} {l : Lw} {cs : List Value} (h : LawC w B l cs) : ∃ k1 s1 n1 lo1 hi1 A1 m1 c1 k2 s2 n2 lo2 hi2 A2 m2 c2 A3 c3 A4 c4, cs = lawL l.name k1 s1 n1 lo1 hi1 A1 m1 c1 k2 s2 n2 lo2 hi2 A2 m2 c2 A3 l.ifs.length c3 A4 l.outs.length c4 l.mode ∧
    PatC w B l.left (patL k1 s1 n1 lo1 hi1 (.slice A1 m1 c1)) ∧ PatC w B l.right (patL k2 s2 n2 lo2 hi2 (.slice A2 m2 c2)) ∧
    Reads w B 2 A3 l.ifs.length (l.ifs.flatMap sndC) ∧ Reads w B 6 A4 l.outs.length (l.outs.flatMap outC) ∧ (∀ s ∈ l.ifs, ok32 s) ∧ (∀ x ∈ l.outs, is32 x.clear ∧ ok32 x.set ∧ is32 x.take) ∧ l.ifs.length ≤ maxLen ∧ l.outs.length ≤ maxLen := by
  obtain ⟨q1, q2, A3, c3, A4, c4, rfl, h2, h3, h4⟩ := h
  obtain ⟨k1, s1, n1, lo1, hi1, A1, m1, c1, rfl⟩ := h2.form
  obtain ⟨k2, s2, n2, lo2, hi2, A2, m2, c2, rfl⟩ := h3.form
  exact ⟨k1, s1, n1, lo1, hi1, A1, m1, c1, k2, s2, n2, lo2, hi2, A2, m2, c2, A3, c3, A4, c4, rfl, h2, h3, h4⟩
theorem law_parts {w : World} {B : Nat} {nm : ByteArray} {left right : Pt} {ifs : List Snd} {outs : List Ot} {mode : Int} {k1 : Int} {s1 : Snd} {n1 : Bool} {lo1 hi1 : Int} {A1 : Option Addr} {m1 c1 : Nat} {k2 : Int} {s2 : Snd} {n2 : Bool} {lo2 hi2 : Int} {A2 : Option Addr} {m2 c2 : Nat} {A3 : Option Addr} {m3 c3 : Nat} {A4 : Option Addr} {m4 c4 : Nat} {mo : Int}
    (h : LawC w B ⟨nm, left, right, ifs, outs, mode⟩ (lawL nm k1 s1 n1 lo1 hi1 A1 m1 c1 k2 s2 n2 lo2 hi2 A2 m2 c2 A3 m3 c3 A4 m4 c4 mo)) :
    PatC w B left (patL k1 s1 n1 lo1 hi1 (.slice A1 m1 c1)) ∧ PatC w B right (patL k2 s2 n2 lo2 hi2 (.slice A2 m2 c2)) ∧ Reads w B 2 A3 ifs.length (ifs.flatMap sndC) ∧ Reads w B 6 A4 outs.length (outs.flatMap outC) := by
  obtain ⟨q1, q2, A3', c3', A4', c4', he, h2, h3, h4, h5, _⟩ := h
  have l1 := h2.len
  have l2 := h3.len
  match q1, l1, q2, l2 with
  | [x0, x1, x2, x3, x4, x5, x6], _, [z0, z1, z2, z3, z4, z5, z6], _ =>
    simp only [lawL, List.cons_append, List.nil_append, List.cons.injEq, and_true, true_and] at he
    obtain ⟨e0, e1, e2, e3, e4, e5, e6, f0, f1, f2, f3, f4, f5, f6, g3, g4, g5⟩ := he
    subst e0 e1 e2 e3 e4 e5 e6 f0 f1 f2 f3 f4 f5 f6
    injection g3 with g3 _ _
    injection g4 with g4 _ _
    subst g3 g4
    exact ⟨h2, h3, h4, h5⟩
theorem Blk.eighteen {w : World} {g : Nat} {t : TypeId} {a0 a1 a2 a3 a4 a5 a6 a7 a8 a9 a10 a11 a12 a13 a14 a15 a16 a17 : Value} (h : Blk w g t #[a0, a1, a2, a3, a4, a5, a6, a7, a8, a9, a10, a11, a12, a13, a14, a15, a16, a17]) :
    w.cell? ⟨g, 0, none⟩ = some a0 ∧ w.cell? ⟨g, 1, none⟩ = some a1 ∧ w.cell? ⟨g, 2, none⟩ = some a2 ∧ w.cell? ⟨g, 3, none⟩ = some a3 ∧ w.cell? ⟨g, 4, none⟩ = some a4 ∧ w.cell? ⟨g, 5, none⟩ = some a5 ∧ w.cell? ⟨g, 6, none⟩ = some a6 ∧ w.cell? ⟨g, 7, none⟩ = some a7 ∧ w.cell? ⟨g, 8, none⟩ = some a8 ∧ w.cell? ⟨g, 9, none⟩ = some a9 ∧ w.cell? ⟨g, 10, none⟩ = some a10 ∧ w.cell? ⟨g, 11, none⟩ = some a11 ∧ w.cell? ⟨g, 12, none⟩ = some a12 ∧ w.cell? ⟨g, 13, none⟩ = some a13 ∧ w.cell? ⟨g, 14, none⟩ = some a14 ∧ w.cell? ⟨g, 15, none⟩ = some a15 ∧ w.cell? ⟨g, 16, none⟩ = some a16 ∧ w.cell? ⟨g, 17, none⟩ = some a17 :=
  ⟨h.cell 0, h.cell 1, h.cell 2, h.cell 3, h.cell 4, h.cell 5, h.cell 6, h.cell 7, h.cell 8, h.cell 9, h.cell 10, h.cell 11, h.cell 12, h.cell 13, h.cell 14, h.cell 15, h.cell 16, h.cell 17⟩
/-- What is valid can be written. -/
def okLaw (l : Lw) : Prop := l.name.size ≤ 1000 ∧ (ptOk l.left = true ∧ ptSize l.left ≤ 40) ∧ (ptOk l.right = true ∧ ptSize l.right ≤ 40) ∧ l.ifs.length ≤ 1000 ∧ l.outs.length ≤ 1000 ∧ (∀ x ∈ l.outs, ok32O x) ∧ 0 ≤ l.mode ∧ l.mode < 4294967296
set_option maxRecDepth 20000 in
set_option maxHeartbeats 4000000 in
theorem wlaw_any (w : World) (base g B : Nat) (l : Lw) (cs : List Value) (xs : List Nat) (h : Wr w base g xs) (hl : LawC w B l cs) (hB : B ≤ base) (hok : okLaw l) (hx : xs.length + 100000 ≤ CAP) :
    Calls Tryz.prog 64 #[wptr g, .agg cs.toArray] w fun e w' => e = .returned (.tuple #[]) ∧ Wr w' base g (xs ++ lawB l) ∧ WStep g w w' := by
  obtain ⟨k1, s1, n1, lo1, hi1, A1, m1, c1, k2, s2, n2, lo2, hi2, A2, m2, c2, A3, c3, A4, c4, rfl, hp1, hp2, hr3, hr4, hs3, -, -, -⟩ := hl.form
  obtain ⟨nm, left, right, ifs, outs, mode⟩ := l
  obtain ⟨hnm, ⟨ho1, hz1⟩, ⟨ho2, hz2⟩, hm3, hm4, hs4, hmo, hmo2⟩ := hok
  simp only at *
  have hgl := h.lt
  have hbg := h.base_le
  have hw1 := (h.alloc (.cells #[wptr g] 142)).alloc (.cells #[.string nm, .int .i64 k1, .int .u32 s1.1, .int .u32 s1.2, .bool n1, .int .i64 lo1, .int .i64 hi1, .slice A1 m1 c1, .int .i64 k2, .int .u32 s2.1, .int .u32 s2.2, .bool n2, .int .i64 lo2, .int .i64 hi2, .slice A2 m2 c2, .slice A3 ifs.length c3, .slice A4 outs.length c4, .int .i64 mode] 62)
  have hh0 := (Blk.new w 142 #[wptr g]).alloc (.cells #[.string nm, .int .i64 k1, .int .u32 s1.1, .int .u32 s1.2, .bool n1, .int .i64 lo1, .int .i64 hi1, .slice A1 m1 c1, .int .i64 k2, .int .u32 s2.1, .int .u32 s2.2, .bool n2, .int .i64 lo2, .int .i64 hi2, .slice A2 m2 c2, .slice A3 ifs.length c3, .slice A4 outs.length c4, .int .i64 mode] 62)
  have hb0 : Blk ((w.alloc (.cells #[wptr g] 142)).alloc (.cells #[.string nm, .int .i64 k1, .int .u32 s1.1, .int .u32 s1.2, .bool n1, .int .i64 lo1, .int .i64 hi1, .slice A1 m1 c1, .int .i64 k2, .int .u32 s2.1, .int .u32 s2.2, .bool n2, .int .i64 lo2, .int .i64 hi2, .slice A2 m2 c2, .slice A3 ifs.length c3, .slice A4 outs.length c4, .int .i64 mode] 62)) (w.heap.size + 1) 62 #[.string nm, .int .i64 k1, .int .u32 s1.1, .int .u32 s1.2, .bool n1, .int .i64 lo1, .int .i64 hi1, .slice A1 m1 c1, .int .i64 k2, .int .u32 s2.1, .int .u32 s2.2, .bool n2, .int .i64 lo2, .int .i64 hi2, .slice A2 m2 c2, .slice A3 ifs.length c3, .slice A4 outs.length c4, .int .i64 mode] := by simpa using Blk.new (w.alloc (.cells #[wptr g] 142)) 62 #[.string nm, .int .i64 k1, .int .u32 s1.1, .int .u32 s1.2, .bool n1, .int .i64 lo1, .int .i64 hi1, .slice A1 m1 c1, .int .i64 k2, .int .u32 s2.1, .int .u32 s2.2, .bool n2, .int .i64 lo2, .int .i64 hi2, .slice A2 m2 c2, .slice A3 ifs.length c3, .slice A4 outs.length c4, .int .i64 mode]
  have hst0 := ((WStep.refl g w).alloc h.lt (.cells #[wptr g] 142)).alloc (by simp; omega) (.cells #[.string nm, .int .i64 k1, .int .u32 s1.1, .int .u32 s1.2, .bool n1, .int .i64 lo1, .int .i64 hi1, .slice A1 m1 c1, .int .i64 k2, .int .u32 s2.1, .int .u32 s2.2, .bool n2, .int .i64 lo2, .int .i64 hi2, .slice A2 m2 c2, .slice A3 ifs.length c3, .slice A4 outs.length c4, .int .i64 mode] 62)
  have hbel0 := (hst0.below h).mono hB
  have hl0 := hl.below hbel0
  have e1 : (textB nm).length ≤ 1005 := by unfold textB; rw [List.length_append, sbytes_len]; have := numB_len nm.size; omega
  have e2 := patB_len left
  have e3 := patB_len right
  have e4 := wordB_len ifs
  have e5 : (outsB outs).length ≤ 5 + 30 * outs.length := by
    show (numB outs.length ++ outs.flatMap outB).length ≤ _
    rw [List.length_append]
    have := numB_len outs.length
    have := flatB_len outB_len outs
    omega
  have hc1 := text_any _ base g nm xs hw1 (by omega) (by omega)
  obtain ⟨Z1, hZ1⟩ : ∃ Z, (w.alloc (.cells #[wptr g] 142)).alloc (.cells #[.string nm, .int .i64 k1, .int .u32 s1.1, .int .u32 s1.2, .bool n1, .int .i64 lo1, .int .i64 hi1, .slice A1 m1 c1, .int .i64 k2, .int .u32 s2.1, .int .u32 s2.2, .bool n2, .int .i64 lo2, .int .i64 hi2, .slice A2 m2 c2, .slice A3 ifs.length c3, .slice A4 outs.length c4, .int .i64 mode] 62) = Z := ⟨_, rfl⟩
  rw [hZ1] at hw1 hh0 hb0 hst0 hbel0 hl0 hc1
  have hzs : Z1.heap.size = w.heap.size + 2 := by rw [← hZ1]; simp
  have HZ1 := Lib.hid hZ1
  show Calls _ _ #[wptr g, .agg #[.string nm, .int .i64 k1, .int .u32 s1.1, .int .u32 s1.2, .bool n1, .int .i64 lo1, .int .i64 hi1, .slice A1 m1 c1, .int .i64 k2, .int .u32 s2.1, .int .u32 s2.2, .bool n2, .int .i64 lo2, .int .i64 hi2, .slice A2 m2 c2, .slice A3 ifs.length c3, .slice A4 outs.length c4, .int .i64 mode]] _ fun e w' => e = .returned (.tuple #[]) ∧ Wr w' base g (xs ++ (textB nm ++ (patB left ++ (patB right ++ (wordB ifs ++ (outsB outs ++ numB mode.toNat)))))) ∧ WStep g w w'
  have hyc := hh0.cell 0
  obtain ⟨y0, y1, y2, y3, y4, y5, y6, y7, y8, y9, y10, y11, y12, y13, y14, y15, y16, y17⟩ := hb0.eighteen
  simp only [List.getElem?_toArray, List.getElem?_cons_zero] at hyc
  have HW0 := Lib.hid hw1; have HH0 := Lib.hid hh0; have HB0 := Lib.hid hb0; have HST0 := Lib.hid hst0; have HL0 := Lib.hid hl0
  clear hw1 hh0 hb0 hst0 hbel0 hl0 h hl hp1 hp2 hr3 hr4 hZ1
  go_enter Tryz.func64, Tryz.ntmps64
  go_wp2_with fail
  rw [HZ1.out]
  clear HZ1
  refine hc1.mono ?_
  rintro e w1 ⟨rfl, h1, h2⟩
  have hstx := HST0.out.trans h2
  have hbx := h2.blk HW0.out HB0.out (by decide) (by omega)
  have hhx := h2.blk HW0.out HH0.out (by decide) (by omega)
  have hlx := HL0.out.below ((h2.below HW0.out).mono hB)
  have hyc := hhx.cell 0
  obtain ⟨y0, y1, y2, y3, y4, y5, y6, y7, y8, y9, y10, y11, y12, y13, y14, y15, y16, y17⟩ := hbx.eighteen
  simp only [List.getElem?_toArray, List.getElem?_cons_zero] at hyc
  obtain ⟨hp1, hp2, hr3, hr4⟩ := law_parts hlx
  have hcx := pattern_any 40 left k1 s1 n1 lo1 hi1 A1 m1 c1 w1 base g B _ hz1 (by omega) ho1 hp1 hB h1 (by rw [List.length_append]; omega)
  have HW1 := Lib.hid h1; have HH1 := Lib.hid hhx; have HB1 := Lib.hid hbx; have HST1 := Lib.hid hstx; have HL1 := Lib.hid hlx; have hc2 := hcx
  clear h1 h2 hstx hbx hhx hlx hcx hp1 hp2 hr3 hr4
  go_wp2_with fail
  refine hc2.mono ?_
  rintro e w2 ⟨rfl, h1, h2⟩
  have hstx := HST1.out.trans h2
  have hbx := h2.blk HW1.out HB1.out (by decide) (by omega)
  have hhx := h2.blk HW1.out HH1.out (by decide) (by omega)
  have hlx := HL1.out.below ((h2.below HW1.out).mono hB)
  have hyc := hhx.cell 0
  obtain ⟨y0, y1, y2, y3, y4, y5, y6, y7, y8, y9, y10, y11, y12, y13, y14, y15, y16, y17⟩ := hbx.eighteen
  simp only [List.getElem?_toArray, List.getElem?_cons_zero] at hyc
  obtain ⟨hp1, hp2, hr3, hr4⟩ := law_parts hlx
  have hcx := pattern_any 40 right k2 s2 n2 lo2 hi2 A2 m2 c2 w2 base g B _ hz2 (by omega) ho2 hp2 hB h1 (by rw [List.length_append, List.length_append]; omega)
  have HW2 := Lib.hid h1; have HH2 := Lib.hid hhx; have HB2 := Lib.hid hbx; have HST2 := Lib.hid hstx; have HL2 := Lib.hid hlx; have hc3 := hcx
  clear h1 h2 hstx hbx hhx hlx hcx hp1 hp2 hr3 hr4
  go_wp2_with fail
  refine hc3.mono ?_
  rintro e w3 ⟨rfl, h1, h2⟩
  have hstx := HST2.out.trans h2
  have hbx := h2.blk HW2.out HB2.out (by decide) (by omega)
  have hhx := h2.blk HW2.out HH2.out (by decide) (by omega)
  have hlx := HL2.out.below ((h2.below HW2.out).mono hB)
  have hyc := hhx.cell 0
  obtain ⟨y0, y1, y2, y3, y4, y5, y6, y7, y8, y9, y10, y11, y12, y13, y14, y15, y16, y17⟩ := hbx.eighteen
  simp only [List.getElem?_toArray, List.getElem?_cons_zero] at hyc
  obtain ⟨hp1, hp2, hr3, hr4⟩ := law_parts hlx
  have hcx := allSnd_any w3 base g B A3 ifs.length c3 ifs _ h1 hr3 hB (by omega) hs3 (by rw [List.length_append, List.length_append, List.length_append]; omega)
  have HW3 := Lib.hid h1; have HH3 := Lib.hid hhx; have HB3 := Lib.hid hbx; have HST3 := Lib.hid hstx; have HL3 := Lib.hid hlx; have hc4 := hcx
  clear h1 h2 hstx hbx hhx hlx hcx hp1 hp2 hr3 hr4
  go_wp2_with fail
  refine hc4.mono ?_
  rintro e w4 ⟨rfl, h1, h2⟩
  have hstx := HST3.out.trans h2
  have hbx := h2.blk HW3.out HB3.out (by decide) (by omega)
  have hhx := h2.blk HW3.out HH3.out (by decide) (by omega)
  have hlx := HL3.out.below ((h2.below HW3.out).mono hB)
  have hyc := hhx.cell 0
  obtain ⟨y0, y1, y2, y3, y4, y5, y6, y7, y8, y9, y10, y11, y12, y13, y14, y15, y16, y17⟩ := hbx.eighteen
  simp only [List.getElem?_toArray, List.getElem?_cons_zero] at hyc
  obtain ⟨hp1, hp2, hr3, hr4⟩ := law_parts hlx
  have hcx := allOut_any w4 base g w.heap.size B A4 outs.length c4 outs _ h1 hhx hr4 hB hm4 hs4 (by rw [List.length_append, List.length_append, List.length_append, List.length_append]; omega)
  have HW4 := Lib.hid h1; have HH4 := Lib.hid hhx; have HB4 := Lib.hid hbx; have HST4 := Lib.hid hstx; have HL4 := Lib.hid hlx; have hc5 := hcx
  clear h1 h2 hstx hbx hhx hlx hcx hp1 hp2 hr3 hr4
  go_wp2_with fail
  refine hc5.mono ?_
  rintro e w5 ⟨rfl, h1, h2⟩
  have hstx := HST4.out.trans h2
  have hbx := h2.blk HW4.out HB4.out (by decide) (by omega)
  have hhx := h2.blk HW4.out HH4.out (by decide) (by omega)
  have hlx := HL4.out.below ((h2.below HW4.out).mono hB)
  have hyc := hhx.cell 0
  obtain ⟨y0, y1, y2, y3, y4, y5, y6, y7, y8, y9, y10, y11, y12, y13, y14, y15, y16, y17⟩ := hbx.eighteen
  simp only [List.getElem?_toArray, List.getElem?_cons_zero] at hyc
  obtain ⟨hp1, hp2, hr3, hr4⟩ := law_parts hlx
  have hcx := count_int w5 base g mode _ h1 hmo hmo2 (by rw [List.length_append, List.length_append, List.length_append, List.length_append, List.length_append]; omega)
  have HW5 := Lib.hid h1; have HH5 := Lib.hid hhx; have HB5 := Lib.hid hbx; have HST5 := Lib.hid hstx; have HL5 := Lib.hid hlx; have hc6 := hcx
  clear h1 h2 hstx hbx hhx hlx hcx hp1 hp2 hr3 hr4
  go_wp2_with fail
  refine hc6.mono ?_
  rintro e w6 ⟨rfl, h1, h2⟩
  have HE := Lib.hid h1; have HF := Lib.hid h2
  clear h1 h2
  go_wp2
  go_end0
  exact ⟨rfl, by rw [← List.append_assoc, ← List.append_assoc, ← List.append_assoc, ← List.append_assoc, ← List.append_assoc]; exact HE.out, HST5.out.trans HF.out⟩
end Go.Proofs.YtmepaeahchiglaaGreatDoor
namespace Go.Proofs.YtmepaeahchiglaaGreatDoor
open Go.ChangeShapes Go.WideShapes Go.ChangeAt Go.RowKit

section
variable {H : Type} {enc : TypeId × Value → H} {P : Program} {W : World}
def SndTy (P : Program) (t : TypeId) : Prop := ∃ g0 g1 : Field, P.underlying t = some (.struct #[g0, g1]) ∧ (g0.offset = 0 ∧ g1.offset = 1) ∧ (P.cellsOf g0.type = 1 ∧ P.cellsOf g1.type = 1 ∧ P.cellsOf t = 2) ∧ P.underlying g0.type = some (.int .u32) ∧ P.underlying g1.type = some (.int .u32)
theorem open_snd_t {t : TypeId} (T : SndTy P t) {fuel : Nat} {cs : List Value} {y : DataW H × List MemPlace} (h : DataW.trod enc P W 0 (fun _ => true) true fuel t cs = some y) : ∃ s : Snd, cs = sndC s ∧ ok32 s := by
  obtain ⟨g0, g1, hu, ⟨o0, o1⟩, ⟨c0, c1, c2⟩, u0, u1⟩ := T
  obtain ⟨xs, n, _, _, hl, hlen, hf⟩ := DataW.trod_struct hu h
  rw [c2] at hl
  match xs, hlen, cs, hl with
  | [y0, y1], _, [v0, v1], _ =>
    have k0 := hf 0 g0 rfl
    have k1 := hf 1 g1 rfl
    simp [o0, o1, c0, c1] at k0 k1
    obtain ⟨z0, e0, _, w0⟩ := DataW.trod_int u0 k0
    obtain ⟨z1, e1, _, w1⟩ := DataW.trod_int u1 k1
    simp only [List.cons.injEq, and_true] at e0 e1
    subst e0 e1
    obtain ⟨m0, rfl, l0⟩ := u32_of_wf w0
    obtain ⟨m1, rfl, l1⟩ := u32_of_wf w1
    exact ⟨(m0, m1), rfl, l0, l1⟩
def PatTy (P : Program) (t : TypeId) : Prop := ∃ f0 f1 f2 f3 f4 f5 : Field, P.underlying t = some (.struct #[f0, f1, f2, f3, f4, f5]) ∧ (f0.offset = 0 ∧ f1.offset = 1 ∧ f2.offset = 3 ∧ f3.offset = 4 ∧ f4.offset = 5 ∧ f5.offset = 6) ∧
  (P.cellsOf f0.type = 1 ∧ P.cellsOf f1.type = 2 ∧ P.cellsOf f2.type = 1 ∧ P.cellsOf f3.type = 1 ∧ P.cellsOf f4.type = 1 ∧ P.cellsOf f5.type = 1 ∧ P.cellsOf t = 7) ∧
  P.underlying f0.type = some (.int .i64) ∧ SndTy P f1.type ∧ P.underlying f2.type = some .bool ∧ P.underlying f3.type = some (.int .i64) ∧ P.underlying f4.type = some (.int .i64) ∧ P.underlying f5.type = some (.slice t)
theorem patsC_of {w : World} {B : Nat} (q : Nat → Pt) (z : Nat → List Value) : ∀ L : List Nat, (∀ i ∈ L, PatC w B (q i) (z i)) → PatsC w B (L.map q) (L.flatMap z)
  | [], _ => by rw [List.map_nil, patsC_nil]; rfl
  | i :: L, h => by
    rw [List.map_cons, patsC_cons]
    exact ⟨z i, L.flatMap z, rfl, h i (List.mem_cons_self ..), patsC_of q z L fun j hj => h j (List.mem_cons_of_mem _ hj)⟩
/-- The rows of a slice, read. -/
theorem reads_rows {w : World} {a : Addr} {k len : Nat} (hk : 0 < k) (z : Nat → List Value) (hz : ∀ i, (z i).length = k) (h : ∀ i, i < len → ∀ j u, (z i)[j]? = some u → w.cell? (a.add (i * k + j)) = some u) : Reads w w.heap.size k (some a) len ((List.range len).flatMap z) := by
  refine ⟨by rw [flatMap_len z k hz]; simp, fun hn => ⟨a, rfl, ?_, fun j u hu => ?_⟩⟩
  · have h0 : 0 < (z 0).length := by rw [hz]; exact hk
    have := lt_cell (h 0 hn 0 _ (List.getElem?_eq_getElem h0))
    rwa [block_of_add] at this
  · have hj : j < len * k := by
      have := (List.getElem?_eq_some_iff.1 hu).1
      rw [flatMap_len z k hz] at this; simpa using this
    rw [flatMap_get z k hz _ j (by simpa using hj)] at hu
    have hd : j / k < len := Nat.div_lt_of_lt_mul (by rw [Nat.mul_comm]; exact hj)
    have he : (List.range len)[j / k]! = j / k := by rw [getElem!_pos (List.range len) (j / k) (by simpa using hd)]; simp
    rw [he] at hu
    have hm : j % k < (z (j / k)).length := by rw [hz]; exact Nat.mod_lt _ hk
    rw [getElem!_pos (z (j / k)) (j % k) hm, ← List.getElem?_eq_getElem] at hu
    have := h (j / k) hd (j % k) u hu
    rwa [show j / k * k + j % k = j by rw [Nat.mul_comm]; exact Nat.div_add_mod j k] at this
theorem open_pat_t {t : TypeId} (T : PatTy P t) : ∀ (fuel : Nat) (cs : List Value) (y : DataW H × List MemPlace), DataW.trod enc P W 0 (fun _ => true) true fuel t cs = some y → ∃ p : Pt, PatC W W.heap.size p cs := by
  obtain ⟨f0, f1, f2, f3, f4, f5, hu, ⟨o0, o1, o2, o3, o4, o5⟩, ⟨c0, c1, c2, c3, c4, c5, c6⟩, u0, u1, u2, u3, u4, u5⟩ := T
  intro fuel
  induction fuel using Nat.strongRecOn with
  | _ fuel ih =>
    intro cs y h
    obtain ⟨xs, n, rfl, _, hl, hlen, hf⟩ := DataW.trod_struct hu h
    rw [c6] at hl
    match xs, hlen, cs, hl with
    | [y0, y1, y2, y3, y4, y5], _, [v0, v1, v2, v3, v4, v5, v6], _ =>
      have k0 := hf 0 f0 rfl
      have k1 := hf 1 f1 rfl
      have k2 := hf 2 f2 rfl
      have k3 := hf 3 f3 rfl
      have k4 := hf 4 f4 rfl
      have k5 := hf 5 f5 rfl
      simp [o0, o1, o2, o3, o4, o5, c0, c1, c2, c3, c4, c5] at k0 k1 k2 k3 k4 k5
      obtain ⟨k, e0, _, _⟩ := DataW.trod_int u0 k0
      obtain ⟨s, e1, hs⟩ := open_snd_t u1 k1
      obtain ⟨neg, e2, _⟩ := DataW.trod_bool u2 k2
      obtain ⟨lo, e3, _, _⟩ := DataW.trod_int u3 k3
      obtain ⟨hi, e4, _, _⟩ := DataW.trod_int u4 k4
      simp only [sndC, List.cons.injEq, and_true] at e0 e1 e2 e3 e4
      obtain ⟨rfl, rfl⟩ := e1
      subst e0 e2 e3 e4
      rcases DataW.trod_slice u5 k5 with ⟨e5, _⟩ | ⟨a, len, cap, elems, rest, m, hm, e5, _, _, hlc, hcm, hel, hx, _, _⟩
      · simp only [List.cons.injEq, and_true] at e5
        subst e5
        refine ⟨.mk k s neg lo hi [], patC_mk.2 ⟨none, 0, [], rfl, hs, Nat.le_refl _, by unfold maxLen; omega, Reads.none_, patsC_nil.2 rfl⟩⟩
      · simp only [List.cons.injEq, and_true] at e5
        subst e5
        obtain ⟨z, hz⟩ : ∃ z : Nat → List Value, ∀ i, z i = (List.range 7).map fun j => (W.cell? (a.add (i * 7 + j))).getD (.bool false) := ⟨_, fun _ => rfl⟩
        have hzl : ∀ i, (z i).length = 7 := fun i => by rw [hz]; simp
        have each : ∀ i, i < len → ∃ p : Pt, PatC W W.heap.size p (z i) ∧ ∀ j u, (z i)[j]? = some u → W.cell? (a.add (i * 7 + j)) = some u := by
          intro i hi
          have hi' : i < elems.length := by omega
          have hxi := hx i hi
          rw [List.getElem?_eq_getElem hi', Option.bind_eq_some_iff] at hxi
          obtain ⟨cs', h1, h2⟩ := hxi
          rw [c6] at h1
          obtain ⟨_, hlen', hcell⟩ := World.cells?_some h1
          have hcell' : ∀ j, j < 7 → W.cell? (a.add (i * 7 + j)) = cs'[j]? := fun j hj => by
            have := hcell j hj
            rwa [Go.Deep.add_add] at this
          have hze : z i = cs' := by
            rw [hz]
            apply List.ext_getElem?
            intro j
            by_cases hj : j < 7
            · rw [List.getElem?_map, List.getElem?_range hj]
              simp only [Option.map_some]
              rw [hcell' j hj, List.getElem?_eq_getElem (by omega)]
              rfl
            · rw [List.getElem?_eq_none (by simpa using hj), List.getElem?_eq_none (by omega)]
          obtain ⟨p, hp⟩ := ih m (by omega) cs' _ h2
          refine ⟨p, by rw [hze]; exact hp, fun j u hu => ?_⟩
          rw [hze] at hu
          have hj : j < 7 := by have := (List.getElem?_eq_some_iff.1 hu).1; omega
          rw [hcell' j hj]; exact hu
        obtain ⟨q, hq⟩ := @Go.Deep.choose_lt Pt ⟨.mk 0 (0, 0) false 0 0 []⟩ _ _ each
        refine ⟨.mk k s neg lo hi ((List.range len).map q), patC_mk.2 ⟨some a, cap, (List.range len).flatMap z, ?_, hs, ?_, hcm, ?_, patsC_of q z _ fun i hi => (hq i (List.mem_range.1 hi)).1⟩⟩
        · simp
        · simpa using hlc
        · rw [List.length_map, List.length_range]
          exact reads_rows (by decide) z hzl fun i hi => (hq i hi).2
def OutTy (P : Program) (t : TypeId) : Prop := ∃ f0 f1 f2 f3 f4 : Field, P.underlying t = some (.struct #[f0, f1, f2, f3, f4]) ∧ (f0.offset = 0 ∧ f1.offset = 1 ∧ f2.offset = 2 ∧ f3.offset = 4 ∧ f4.offset = 5) ∧
  (P.cellsOf f0.type = 1 ∧ P.cellsOf f1.type = 1 ∧ P.cellsOf f2.type = 2 ∧ P.cellsOf f3.type = 1 ∧ P.cellsOf f4.type = 1 ∧ P.cellsOf t = 6) ∧
  P.underlying f0.type = some (.int .i64) ∧ P.underlying f1.type = some (.int .u32) ∧ SndTy P f2.type ∧ P.underlying f3.type = some (.int .u32) ∧ P.underlying f4.type = some (.int .i64)
theorem open_out_t {t : TypeId} (T : OutTy P t) {fuel : Nat} {cs : List Value} {y : DataW H × List MemPlace} (h : DataW.trod enc P W 0 (fun _ => true) true fuel t cs = some y) : ∃ x : Ot, cs = outC x ∧ is32 x.clear ∧ ok32 x.set ∧ is32 x.take := by
  obtain ⟨f0, f1, f2, f3, f4, hu, ⟨o0, o1, o2, o3, o4⟩, ⟨c0, c1, c2, c3, c4, c6⟩, u0, u1, u2, u3, u4⟩ := T
  obtain ⟨xs, n, _, _, hl, hlen, hf⟩ := DataW.trod_struct hu h
  rw [c6] at hl
  match xs, hlen, cs, hl with
  | [y0, y1, y2, y3, y4], _, [v0, v1, v2, v3, v4, v5], _ =>
    have k0 := hf 0 f0 rfl
    have k1 := hf 1 f1 rfl
    have k2 := hf 2 f2 rfl
    have k3 := hf 3 f3 rfl
    have k4 := hf 4 f4 rfl
    simp [o0, o1, o2, o3, o4, c0, c1, c2, c3, c4] at k0 k1 k2 k3 k4
    obtain ⟨x0, e0, _, _⟩ := DataW.trod_int u0 k0
    obtain ⟨x1, e1, _, w1⟩ := DataW.trod_int u1 k1
    obtain ⟨s, e2, hs⟩ := open_snd_t u2 k2
    obtain ⟨x3, e3, _, w3⟩ := DataW.trod_int u3 k3
    obtain ⟨x4, e4, _, _⟩ := DataW.trod_int u4 k4
    simp only [sndC, List.cons.injEq, and_true] at e0 e1 e2 e3 e4
    obtain ⟨rfl, rfl⟩ := e2
    subst e0 e1 e3 e4
    obtain ⟨m1, rfl, l1⟩ := u32_of_wf w1
    obtain ⟨m3, rfl, l3⟩ := u32_of_wf w3
    exact ⟨⟨x0, m1, s, m3, x4⟩, rfl, l1, hs, l3⟩
/-- A slice of rows, each of them opened. -/
theorem open_rows_t {α : Type} [Inhabited α] {t e : TypeId} {k : Nat} (hk : 0 < k) (f : α → List Value) (hf : ∀ x, (f x).length = k) (ok : α → Prop) (ht : P.underlying t = some (.slice e)) (ce : P.cellsOf e = k)
    (ho : ∀ (n : Nat) (cs : List Value) (y : DataW H × List MemPlace), DataW.trod enc P W 0 (fun _ => true) true n e cs = some y → ∃ x : α, cs = f x ∧ ok x) {fuel : Nat} {cs : List Value} {x : DataW H × List MemPlace}
    (h : DataW.trod enc P W 0 (fun _ => true) true fuel t cs = some x) :
    ∃ A n c, ∃ rs : List α, cs = [.slice A n c] ∧ rs.length = n ∧ Reads W W.heap.size k A n (rs.flatMap f) ∧ (∀ s ∈ rs, ok s) ∧ n ≤ c ∧ c ≤ maxLen := by
  rcases Go.Deep.open_slice ht h with ⟨rfl, _⟩ | ⟨a, len, cap, m, n, D, Pl, rfl, hb, hl, hm, hmm, rfl, hx⟩
  · exact ⟨none, 0, 0, [], rfl, rfl, Reads.none_, (fun s hs => by cases hs), by omega, by unfold maxLen; omega⟩
  · simp only [if_true] at hmm
    subst hmm
    have each : ∀ i, i < m → ∃ q : α, ok q ∧ ∀ j u, (f q)[j]? = some u → W.cell? (a.add (i * k + j)) = some u := by
      intro i hi
      obtain ⟨cs', h1, h2⟩ := hx i hi
      rw [ce] at h1
      obtain ⟨_, hlen, hcell⟩ := World.cells?_some h1
      obtain ⟨q, rfl, hq⟩ := ho _ _ _ h2
      refine ⟨q, hq, fun j u hu => ?_⟩
      have hj : j < k := by have := (List.getElem?_eq_some_iff.1 hu).1; omega
      have := hcell j hj
      rw [Go.Deep.add_add] at this
      rw [this]; exact hu
    obtain ⟨q, hq⟩ := Go.Deep.choose_lt each
    refine ⟨some a, len, m, (List.range len).map q, rfl, by simp, ?_, fun s hs => ?_, hl, hm⟩
    · rw [List.flatMap_map]
      exact reads_rows hk (fun i => f (q i)) (fun i => hf _) fun i hi => (hq i (by omega)).2
    · obtain ⟨i, hi, rfl⟩ := List.mem_map.1 hs
      exact (hq i (by have := List.mem_range.1 hi; omega)).1
def LawTy (P : Program) (t : TypeId) : Prop := ∃ f0 f1 f2 f3 f4 f5 : Field, ∃ es eo : TypeId, P.underlying t = some (.struct #[f0, f1, f2, f3, f4, f5]) ∧ (f0.offset = 0 ∧ f1.offset = 1 ∧ f2.offset = 8 ∧ f3.offset = 15 ∧ f4.offset = 16 ∧ f5.offset = 17) ∧
  (P.cellsOf f0.type = 1 ∧ P.cellsOf f1.type = 7 ∧ P.cellsOf f2.type = 7 ∧ P.cellsOf f3.type = 1 ∧ P.cellsOf f4.type = 1 ∧ P.cellsOf f5.type = 1 ∧ P.cellsOf t = 18) ∧
  P.underlying f0.type = some .string ∧ PatTy P f1.type ∧ PatTy P f2.type ∧ (P.underlying f3.type = some (.slice es) ∧ P.cellsOf es = 2 ∧ SndTy P es) ∧ (P.underlying f4.type = some (.slice eo) ∧ P.cellsOf eo = 6 ∧ OutTy P eo) ∧ P.underlying f5.type = some (.int .i64)
theorem open_law_t {t : TypeId} (T : LawTy P t) {fuel : Nat} {cs : List Value} {y : DataW H × List MemPlace} (h : DataW.trod enc P W 0 (fun _ => true) true fuel t cs = some y) : ∃ l : Lw, LawC W W.heap.size l cs ∧ l.name.size ≤ maxLen := by
  obtain ⟨f0, f1, f2, f3, f4, f5, es, eo, hu, ⟨o0, o1, o2, o3, o4, o5⟩, ⟨c0, c1, c2, c3, c4, c5, c6⟩, u0, u1, u2, ⟨u3, cs3, t3⟩, ⟨u4, cs4, t4⟩, u5⟩ := T
  obtain ⟨xs, n, _, _, hl, hlen, hf⟩ := DataW.trod_struct hu h
  rw [c6] at hl
  match xs, hlen, cs, hl with
  | [y0, y1, y2, y3, y4, y5], _, [v0, v1, v2, v3, v4, v5, v6, v7, v8, v9, v10, v11, v12, v13, v14, v15, v16, v17], _ =>
    have k0 := hf 0 f0 rfl
    have k1 := hf 1 f1 rfl
    have k2 := hf 2 f2 rfl
    have k3 := hf 3 f3 rfl
    have k4 := hf 4 f4 rfl
    have k5 := hf 5 f5 rfl
    simp [o0, o1, o2, o3, o4, o5, c0, c1, c2, c3, c4, c5] at k0 k1 k2 k3 k4 k5
    obtain ⟨nm, e0, _, hnm⟩ := DataW.trod_string u0 k0
    obtain ⟨left, hleft⟩ := open_pat_t u1 _ _ _ k1
    obtain ⟨right, hright⟩ := open_pat_t u2 _ _ _ k2
    obtain ⟨A3, n3, q3, ifs, e3, rfl, r3, ok3, l3, m3⟩ := open_rows_t (by decide) sndC (fun _ => rfl) ok32 u3 cs3 (fun n cs y hh => open_snd_t t3 hh) k3
    obtain ⟨A4, n4, q4, outs, e4, rfl, r4, ok4, l4, m4⟩ := open_rows_t (by decide) outC (fun _ => rfl) (fun x => is32 x.clear ∧ ok32 x.set ∧ is32 x.take) u4 cs4 (fun n cs y hh => open_out_t t4 hh) k4
    obtain ⟨mo, e5, _, _⟩ := DataW.trod_int u5 k5
    simp only [List.cons.injEq, and_true] at e0 e3 e4 e5
    subst e0 e3 e4 e5
    exact ⟨⟨nm, left, right, ifs, outs, mo⟩, ⟨_, _, A3, q3, A4, q4, rfl, hleft, hright, r3, r4, ok3, ok4, Nat.le_trans l3 m3, Nat.le_trans l4 m4⟩, hnm⟩
end
theorem sndTy : SndTy Tryz.prog 55 := ⟨_, _, Tryz.underlying55, ⟨rfl, rfl⟩, ⟨by kernel_rfl, by kernel_rfl, by kernel_rfl⟩, Tryz.underlying42, Tryz.underlying42⟩
theorem patTy : PatTy Tryz.prog 58 := ⟨_, _, _, _, _, _, Tryz.underlying58, ⟨rfl, rfl, rfl, rfl, rfl, rfl⟩, ⟨by kernel_rfl, by kernel_rfl, by kernel_rfl, by kernel_rfl, by kernel_rfl, by kernel_rfl, by kernel_rfl⟩,
  Tryz.underlying3, sndTy, Tryz.underlying4, Tryz.underlying3, Tryz.underlying3, Tryz.underlying56⟩
theorem outTy : OutTy Tryz.prog 90 := ⟨_, _, _, _, _, Tryz.underlying90, ⟨rfl, rfl, rfl, rfl, rfl⟩, ⟨by kernel_rfl, by kernel_rfl, by kernel_rfl, by kernel_rfl, by kernel_rfl, by kernel_rfl⟩,
  Tryz.underlying3, Tryz.underlying42, sndTy, Tryz.underlying42, Tryz.underlying3⟩
theorem lawTy : LawTy Tryz.prog 62 := ⟨_, _, _, _, _, _, _, _, Tryz.underlying62, ⟨rfl, rfl, rfl, rfl, rfl, rfl⟩, ⟨by kernel_rfl, by kernel_rfl, by kernel_rfl, by kernel_rfl, by kernel_rfl, by kernel_rfl, by kernel_rfl⟩,
  Tryz.underlying9, patTy, patTy, ⟨Tryz.underlying59, by kernel_rfl, sndTy⟩, ⟨Tryz.underlying60, by kernel_rfl, outTy⟩, Tryz.underlying3⟩
end Go.Proofs.YtmepaeahchiglaaGreatDoor
namespace Go.Proofs.YtmepaeahchiglaaGreatDoor
open Go.RowKit Go.Maps Go.WideMaps

theorem keyS_ : Keyed Tryz.prog 9 := string_keyed Tryz.underlying9
def MapSI (w : World) (b n : Nat) (f : ByteArray → Option Int) : Prop :=
  ∃ D : DataW Unit, w.ownsMap Tryz.prog 9 (plainElem Tryz.prog 3) b n D ∧ IsMap D ∧
    ∀ s : ByteArray, has D (.string s.data.toList) = (f s).isSome ∧ ∀ v, f s = some v → D.atKey (.string s.data.toList) (.lit (.int .i64 0)) = .lit (.int .i64 v)
theorem MapSI.lt {w : World} {b n : Nat} {f : ByteArray → Option Int} (h : MapSI w b n f) : b < w.heap.size := by
  obtain ⟨D, h1, _⟩ := h; exact h1.lt
theorem MapSI.made (w : World) : MapSI (w.alloc (.map #[] 0)) w.heap.size 0 (fun _ => none) :=
  ⟨.map [], World.ownsMap_made w _ _ _, isMap_empty, fun s => ⟨rfl, fun v h => by cases h⟩⟩
theorem MapSI.kept {w w' : World} {b n : Nat} {f : ByteArray → Option Int} {row : Option Nat} (h : MapSI w b n f) (hg : w.grownBy w' row) (hne : some b ≠ row) : MapSI w' b n f := by
  obtain ⟨D, h1, h2⟩ := h; exact ⟨D, h1.kept hg hne, h2⟩
theorem MapSI.below {w w' : World} {b n : Nat} {f : ByteArray → Option Int} (h : MapSI w b n f) (hb : Below w.heap.size w w') : MapSI w' b n f :=
  h.kept (row := none) ⟨hb.os, hb.tape, hb.output, hb.size, fun i hi _ => hb.block i hi⟩ (by simp)
theorem MapSI.isMap {w : World} {b n : Nat} {f : ByteArray → Option Int} (h : MapSI w b n f) : ∃ es clock, w.heap[b]? = some (.map es clock) := by
  obtain ⟨D, ⟨es, clock, hb, _⟩, _⟩ := h; exact ⟨es, clock, hb⟩
theorem key_string {s : ByteArray} (hs : s.size ≤ maxLen) : keyOf Tryz.prog 9 (.string s) = some (.string s.data.toList) := keyOf_string_mk Tryz.underlying9 hs
theorem zero_int (w : World) : (zeroValue 3).run Tryz.prog w = .ok (.int .i64 0) w := by kernel_rfl
/-- 'v, ok := m[s]'. -/
theorem MapSI.look {w : World} {b n : Nat} {f : ByteArray → Option Int} (h : MapSI w b n f) (s : ByteArray) (hs : s.size ≤ maxLen) :
    (Instr.lookup 240 (.map (some b)) (.string s) true).run Tryz.prog w = .ok (.tuple #[.int .i64 ((f s).getD 0), .bool (f s).isSome]) w := by
  obtain ⟨D, h1, h2, h3⟩ := h
  obtain ⟨v, ps, hrun, hv⟩ := h1.look_ok keyS_ Tryz.underlying240 (zero_int w) (plainElem_int (H := Unit) (a := 0) Tryz.underlying3 (by decide)) (key_string hs)
  obtain ⟨c, rfl, hc, _⟩ := plainElem_int_inv Tryz.underlying3 hv
  simp only [Prod.mk.injEq] at hc
  rw [hrun, (h3 s).1]
  cases hf : f s with
  | none =>
    have hh : has D (.string s.data.toList) = false := by rw [(h3 s).1, hf]; rfl
    rw [atKey_of_not_has hh] at hc
    have : c = 0 := (Lit.int.inj (DataW.lit.inj hc.1)).2.symm
    subst this; simp only [Option.isSome_none, Option.getD_none]
  | some x =>
    rw [(h3 s).2 x hf] at hc
    have : c = x := (Lit.int.inj (DataW.lit.inj hc.1)).2.symm
    subst this; simp only [Option.isSome_some, Option.getD_some]
/-- 'm[s] = v'. -/
theorem wpList_putSI {w : World} {ops : Array Oper} {rest : List Oper} {o : Oper} {a : Act} {Q : Exit → Act → World → Prop}
    (hg : o.guard = none) (m x v : Operand) (hop : o.op = Op.mapUpdate 240 m x v) (b n : Nat) (f : ByteArray → Option Int) (hm : a.eval m = .map (some b)) (h : MapSI w b n f) (hn : n < maxLen)
    (s : ByteArray) (hs : s.size ≤ maxLen) (i : Int) (hi : (Lit.int .i64 i).wf = true) (hx : a.eval x = .string s) (hv : a.eval v = .int .i64 i)
    (hK : ∀ w', MapSI w' b (n + 1) (fun t => if t = s then some i else f t) → w.grownBy w' (some b) → wpList Tryz.prog ops Q rest (a.put o.dst undef) w') :
    wpList Tryz.prog ops Q (o :: rest) a w := by
  obtain ⟨D, h1, h2, h3⟩ := h
  refine wpList_mapUpdate_own w hg m x v 240 hop 9 3 keyS_ Tryz.underlying240 _ b n D hm h1 hn (.string s) (.int .i64 i) (.string s.data.toList) hx hv (key_string hs) (.lit (.int .i64 i)) [] (plainElem_int Tryz.underlying3 hi) ?_
  intro w1 hown hgrow
  refine hK w1 ⟨_, hown, h2.put _ _, fun t => ?_⟩ hgrow
  have hlit : WideAt.IsKeyLit (.string s.data.toList) := by first | trivial | rfl | (unfold WideAt.IsKeyLit; trivial)
  by_cases e : t = s
  · subst e
    simp only [↓reduceIte]
    exact ⟨has_put_same h2 hlit _, fun v hv => by injection hv with hv; subst hv; exact atKey_put_same h2 hlit _ _⟩
  · simp only [if_neg e]
    have hne : (Lit.string t.data.toList) ≠ .string s.data.toList := fun h => e (by
      injection h with h
      obtain ⟨⟨l⟩⟩ := t; obtain ⟨⟨l'⟩⟩ := s
      simp only at h; rw [h])
    rw [has_put_other hne, atKey_put_other hne]
    exact h3 t
end Go.Proofs.YtmepaeahchiglaaGreatDoor
