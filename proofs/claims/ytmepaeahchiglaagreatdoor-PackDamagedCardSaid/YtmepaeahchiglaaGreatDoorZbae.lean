/-
  layer 43: the writer's law. Conditions: a valid law that can be read.
-/
import Derived.Test.YtmepaeahchiglaaGreatDoorZbad
import Derived.Test.YtmepaeahchiglaaGreatDoorProg
import Derived.Test.YtmepaeahchiglaaGreatDoorZbaa
import Derived.Maps.Own
import Derived.Maps.OwnSet
import Derived.Maps.OwnOps
import Derived.Test.YtmepaeahchiglaaGreatDoorShelf
import Derived.Shelf.Strings.SlTrimAscii
namespace Go.Proofs.YtmepaeahchiglaaGreatDoor
open Go.RowKit Go.Lib

/-- A law: Name, Left, Right, If, Out, Mode. -/
structure Lw where
  name : ByteArray
  left : Pt
  right : Pt
  ifs : List Snd
  outs : List Ot
  mode : Int
def lawB (l : Lw) : List Nat := textB l.name ++ (patB l.left ++ (patB l.right ++ (wordB l.ifs ++ (outsB l.outs ++ numB l.mode.toNat))))
/-- The cells of a law, whose parts lie below block B. -/
def LawC (w : World) (B : Nat) (l : Lw) (cs : List Value) : Prop := ∃ q1 q2 A3 c3 A4 c4, cs = .string l.name :: (q1 ++ (q2 ++ [.slice A3 l.ifs.length c3, .slice A4 l.outs.length c4, .int .i64 l.mode])) ∧ PatC w B l.left q1 ∧ PatC w B l.right q2 ∧
  Reads w B 2 A3 l.ifs.length (l.ifs.flatMap sndC) ∧ Reads w B 6 A4 l.outs.length (l.outs.flatMap outC) ∧ (∀ s ∈ l.ifs, ok32 s) ∧ (∀ x ∈ l.outs, is32 x.clear ∧ ok32 x.set ∧ is32 x.take) ∧ l.ifs.length ≤ maxLen ∧ l.outs.length ≤ maxLen
theorem LawC.keep {w w' : World} {B : Nat} {l : Lw} {cs : List Value} (h : LawC w B l cs) (hk : ∀ p : Addr, p.block < B → w'.cell? p = w.cell? p) : LawC w' B l cs := by
  obtain ⟨q1, q2, A3, c3, A4, c4, h1, h2, h3, h4, h5, h6⟩ := h
  exact ⟨q1, q2, A3, c3, A4, c4, h1, h2.keep hk _ _, h3.keep hk _ _, h4.keep hk, h5.keep hk, h6⟩
theorem LawC.below {w w' : World} {B : Nat} {l : Lw} {cs : List Value} (h : LawC w B l cs) (hb : Below B w w') : LawC w' B l cs := h.keep fun _ hp => hb.cell hp
theorem LawC.more {w : World} {B B' : Nat} {l : Lw} {cs : List Value} (h : LawC w B l cs) (hb : B ≤ B') : LawC w B' l cs := by
  obtain ⟨q1, q2, A3, c3, A4, c4, h1, h2, h3, h4, h5, h6⟩ := h
  exact ⟨q1, q2, A3, c3, A4, c4, h1, h2.more hb _ _, h3.more hb _ _, h4.more hb, h5.more hb, h6⟩
abbrev lawL (nm : ByteArray) (k1 : Int) (s1 : Snd) (n1 : Bool) (lo1 hi1 : Int) (A1 : Option Addr) (m1 c1 : Nat) (k2 : Int) (s2 : Snd) (n2 : Bool) (lo2 hi2 : Int) (A2 : Option Addr) (m2 c2 : Nat) (A3 : Option Addr) (m3 c3 : Nat) (A4 : Option Addr) (m4 c4 : Nat) (mode : Int) : List Value := [.string nm, .int .i64 k1, .int .u32 s1.1, .int .u32 s1.2, .bool n1, .int .i64 lo1, .int .i64 hi1, .slice A1 m1 c1, .int .i64 k2, .int .u32 s2.1, .int .u32 s2.2, .bool n2, .int .i64 lo2, .int .i64 hi2, .slice A2 m2 c2, .slice A3 m3 c3, .slice A4 m4 c4, .int .i64 mode]
theorem LawC.form {w : World} {B : Nat} {l : Lw} {cs : List Value} (h : LawC w B l cs) : ∃ k1 s1 n1 lo1 hi1 A1 m1 c1 k2 s2 n2 lo2 hi2 A2 m2 c2 A3 c3 A4 c4, cs = lawL l.name k1 s1 n1 lo1 hi1 A1 m1 c1 k2 s2 n2 lo2 hi2 A2 m2 c2 A3 l.ifs.length c3 A4 l.outs.length c4 l.mode ∧
    PatC w B l.left (patL k1 s1 n1 lo1 hi1 (.slice A1 m1 c1)) ∧ PatC w B l.right (patL k2 s2 n2 lo2 hi2 (.slice A2 m2 c2)) ∧
    Reads w B 2 A3 l.ifs.length (l.ifs.flatMap sndC) ∧ Reads w B 6 A4 l.outs.length (l.outs.flatMap outC) ∧ (∀ s ∈ l.ifs, ok32 s) ∧ (∀ x ∈ l.outs, is32 x.clear ∧ ok32 x.set ∧ is32 x.take) ∧ l.ifs.length ≤ maxLen ∧ l.outs.length ≤ maxLen := by
  obtain ⟨q1, q2, A3, c3, A4, c4, rfl, h2, h3, h4⟩ := h
  obtain ⟨k1, s1, n1, lo1, hi1, A1, m1, c1, rfl⟩ := h2.form
  obtain ⟨k2, s2, n2, lo2, hi2, A2, m2, c2, rfl⟩ := h3.form
  exact ⟨k1, s1, n1, lo1, hi1, A1, m1, c1, k2, s2, n2, lo2, hi2, A2, m2, c2, A3, c3, A4, c4, rfl, h2, h3, h4⟩
theorem law_parts {w : World} {B : Nat} {nm : ByteArray} {left right : Pt} {ifs : List Snd} {outs : List Ot} {mode : Int} {k1 : Int} {s1 : Snd} {n1 : Bool} {lo1 hi1 : Int} {A1 : Option Addr} {m1 c1 : Nat} {k2 : Int} {s2 : Snd} {n2 : Bool} {lo2 hi2 : Int} {A2 : Option Addr} {m2 c2 : Nat} {A3 : Option Addr} {m3 c3 : Nat} {A4 : Option Addr} {m4 c4 : Nat} {mo : Int}
    (h : LawC w B ⟨nm, left, right, ifs, outs, mode⟩ (lawL nm k1 s1 n1 lo1 hi1 A1 m1 c1 k2 s2 n2 lo2 hi2 A2 m2 c2 A3 m3 c3 A4 m4 c4 mo)) :
    PatC w B left (patL k1 s1 n1 lo1 hi1 (.slice A1 m1 c1)) ∧ PatC w B right (patL k2 s2 n2 lo2 hi2 (.slice A2 m2 c2)) ∧ Reads w B 2 A3 ifs.length (ifs.flatMap sndC) ∧ Reads w B 6 A4 outs.length (outs.flatMap outC) := by
  obtain ⟨q1, q2, A3', c3', A4', c4', he, h2, h3, h4, h5, _⟩ := h
  have l1 := h2.len
  have l2 := h3.len
  match q1, l1, q2, l2 with
  | [x0, x1, x2, x3, x4, x5, x6], _, [z0, z1, z2, z3, z4, z5, z6], _ =>
    simp only [lawL, List.cons_append, List.nil_append, List.cons.injEq, and_true, true_and] at he
    obtain ⟨e0, e1, e2, e3, e4, e5, e6, f0, f1, f2, f3, f4, f5, f6, g3, g4, g5⟩ := he
    subst e0 e1 e2 e3 e4 e5 e6 f0 f1 f2 f3 f4 f5 f6
    injection g3 with g3 _ _
    injection g4 with g4 _ _
    subst g3 g4
    exact ⟨h2, h3, h4, h5⟩
theorem Blk.eighteen {w : World} {g : Nat} {t : TypeId} {a0 a1 a2 a3 a4 a5 a6 a7 a8 a9 a10 a11 a12 a13 a14 a15 a16 a17 : Value} (h : Blk w g t #[a0, a1, a2, a3, a4, a5, a6, a7, a8, a9, a10, a11, a12, a13, a14, a15, a16, a17]) :
    w.cell? ⟨g, 0, none⟩ = some a0 ∧ w.cell? ⟨g, 1, none⟩ = some a1 ∧ w.cell? ⟨g, 2, none⟩ = some a2 ∧ w.cell? ⟨g, 3, none⟩ = some a3 ∧ w.cell? ⟨g, 4, none⟩ = some a4 ∧ w.cell? ⟨g, 5, none⟩ = some a5 ∧ w.cell? ⟨g, 6, none⟩ = some a6 ∧ w.cell? ⟨g, 7, none⟩ = some a7 ∧ w.cell? ⟨g, 8, none⟩ = some a8 ∧ w.cell? ⟨g, 9, none⟩ = some a9 ∧ w.cell? ⟨g, 10, none⟩ = some a10 ∧ w.cell? ⟨g, 11, none⟩ = some a11 ∧ w.cell? ⟨g, 12, none⟩ = some a12 ∧ w.cell? ⟨g, 13, none⟩ = some a13 ∧ w.cell? ⟨g, 14, none⟩ = some a14 ∧ w.cell? ⟨g, 15, none⟩ = some a15 ∧ w.cell? ⟨g, 16, none⟩ = some a16 ∧ w.cell? ⟨g, 17, none⟩ = some a17 :=
  ⟨h.cell 0, h.cell 1, h.cell 2, h.cell 3, h.cell 4, h.cell 5, h.cell 6, h.cell 7, h.cell 8, h.cell 9, h.cell 10, h.cell 11, h.cell 12, h.cell 13, h.cell 14, h.cell 15, h.cell 16, h.cell 17⟩
/-- What is valid can be written. -/
def okLaw (l : Lw) : Prop := l.name.size ≤ 1000 ∧ (ptOk l.left = true ∧ ptSize l.left ≤ 40) ∧ (ptOk l.right = true ∧ ptSize l.right ≤ 40) ∧ l.ifs.length ≤ 1000 ∧ l.outs.length ≤ 1000 ∧ (∀ x ∈ l.outs, ok32O x) ∧ 0 ≤ l.mode ∧ l.mode < 4294967296
set_option maxRecDepth 20000 in
set_option maxHeartbeats 4000000 in
theorem wlaw_any (w : World) (base g B : Nat) (l : Lw) (cs : List Value) (xs : List Nat) (h : Wr w base g xs) (hl : LawC w B l cs) (hB : B ≤ base) (hok : okLaw l) (hx : xs.length + 100000 ≤ CAP) :
    Calls Tryz.prog 64 #[wptr g, .agg cs.toArray] w fun e w' => e = .returned (.tuple #[]) ∧ Wr w' base g (xs ++ lawB l) ∧ WStep g w w' := by
  obtain ⟨k1, s1, n1, lo1, hi1, A1, m1, c1, k2, s2, n2, lo2, hi2, A2, m2, c2, A3, c3, A4, c4, rfl, hp1, hp2, hr3, hr4, hs3, -, -, -⟩ := hl.form
  obtain ⟨nm, left, right, ifs, outs, mode⟩ := l
  obtain ⟨hnm, ⟨ho1, hz1⟩, ⟨ho2, hz2⟩, hm3, hm4, hs4, hmo, hmo2⟩ := hok
  simp only at *
  have hgl := h.lt
  have hbg := h.base_le
  have hw1 := (h.alloc (.cells #[wptr g] 142)).alloc (.cells #[.string nm, .int .i64 k1, .int .u32 s1.1, .int .u32 s1.2, .bool n1, .int .i64 lo1, .int .i64 hi1, .slice A1 m1 c1, .int .i64 k2, .int .u32 s2.1, .int .u32 s2.2, .bool n2, .int .i64 lo2, .int .i64 hi2, .slice A2 m2 c2, .slice A3 ifs.length c3, .slice A4 outs.length c4, .int .i64 mode] 62)
  have hh0 := (Blk.new w 142 #[wptr g]).alloc (.cells #[.string nm, .int .i64 k1, .int .u32 s1.1, .int .u32 s1.2, .bool n1, .int .i64 lo1, .int .i64 hi1, .slice A1 m1 c1, .int .i64 k2, .int .u32 s2.1, .int .u32 s2.2, .bool n2, .int .i64 lo2, .int .i64 hi2, .slice A2 m2 c2, .slice A3 ifs.length c3, .slice A4 outs.length c4, .int .i64 mode] 62)
  have hb0 : Blk ((w.alloc (.cells #[wptr g] 142)).alloc (.cells #[.string nm, .int .i64 k1, .int .u32 s1.1, .int .u32 s1.2, .bool n1, .int .i64 lo1, .int .i64 hi1, .slice A1 m1 c1, .int .i64 k2, .int .u32 s2.1, .int .u32 s2.2, .bool n2, .int .i64 lo2, .int .i64 hi2, .slice A2 m2 c2, .slice A3 ifs.length c3, .slice A4 outs.length c4, .int .i64 mode] 62)) (w.heap.size + 1) 62 #[.string nm, .int .i64 k1, .int .u32 s1.1, .int .u32 s1.2, .bool n1, .int .i64 lo1, .int .i64 hi1, .slice A1 m1 c1, .int .i64 k2, .int .u32 s2.1, .int .u32 s2.2, .bool n2, .int .i64 lo2, .int .i64 hi2, .slice A2 m2 c2, .slice A3 ifs.length c3, .slice A4 outs.length c4, .int .i64 mode] := by simpa using Blk.new (w.alloc (.cells #[wptr g] 142)) 62 #[.string nm, .int .i64 k1, .int .u32 s1.1, .int .u32 s1.2, .bool n1, .int .i64 lo1, .int .i64 hi1, .slice A1 m1 c1, .int .i64 k2, .int .u32 s2.1, .int .u32 s2.2, .bool n2, .int .i64 lo2, .int .i64 hi2, .slice A2 m2 c2, .slice A3 ifs.length c3, .slice A4 outs.length c4, .int .i64 mode]
  have hst0 := ((WStep.refl g w).alloc h.lt (.cells #[wptr g] 142)).alloc (by simp; omega) (.cells #[.string nm, .int .i64 k1, .int .u32 s1.1, .int .u32 s1.2, .bool n1, .int .i64 lo1, .int .i64 hi1, .slice A1 m1 c1, .int .i64 k2, .int .u32 s2.1, .int .u32 s2.2, .bool n2, .int .i64 lo2, .int .i64 hi2, .slice A2 m2 c2, .slice A3 ifs.length c3, .slice A4 outs.length c4, .int .i64 mode] 62)
  have hbel0 := (hst0.below h).mono hB
  have hl0 := hl.below hbel0
  have e1 : (textB nm).length ≤ 1005 := by unfold textB; rw [List.length_append, sbytes_len]; have := numB_len nm.size; omega
  have e2 := patB_len left
  have e3 := patB_len right
  have e4 := wordB_len ifs
  have e5 : (outsB outs).length ≤ 5 + 30 * outs.length := by
    show (numB outs.length ++ outs.flatMap outB).length ≤ _
    rw [List.length_append]
    have := numB_len outs.length
    have := flatB_len outB_len outs
    omega
  have hc1 := text_any _ base g nm xs hw1 (by omega) (by omega)
  obtain ⟨Z1, hZ1⟩ : ∃ Z, (w.alloc (.cells #[wptr g] 142)).alloc (.cells #[.string nm, .int .i64 k1, .int .u32 s1.1, .int .u32 s1.2, .bool n1, .int .i64 lo1, .int .i64 hi1, .slice A1 m1 c1, .int .i64 k2, .int .u32 s2.1, .int .u32 s2.2, .bool n2, .int .i64 lo2, .int .i64 hi2, .slice A2 m2 c2, .slice A3 ifs.length c3, .slice A4 outs.length c4, .int .i64 mode] 62) = Z := ⟨_, rfl⟩
  rw [hZ1] at hw1 hh0 hb0 hst0 hbel0 hl0 hc1
  have hzs : Z1.heap.size = w.heap.size + 2 := by rw [← hZ1]; simp
  have HZ1 := Lib.hid hZ1
  show Calls _ _ #[wptr g, .agg #[.string nm, .int .i64 k1, .int .u32 s1.1, .int .u32 s1.2, .bool n1, .int .i64 lo1, .int .i64 hi1, .slice A1 m1 c1, .int .i64 k2, .int .u32 s2.1, .int .u32 s2.2, .bool n2, .int .i64 lo2, .int .i64 hi2, .slice A2 m2 c2, .slice A3 ifs.length c3, .slice A4 outs.length c4, .int .i64 mode]] _ fun e w' => e = .returned (.tuple #[]) ∧ Wr w' base g (xs ++ (textB nm ++ (patB left ++ (patB right ++ (wordB ifs ++ (outsB outs ++ numB mode.toNat)))))) ∧ WStep g w w'
  have hyc := hh0.cell 0
  obtain ⟨y0, y1, y2, y3, y4, y5, y6, y7, y8, y9, y10, y11, y12, y13, y14, y15, y16, y17⟩ := hb0.eighteen
  simp only [List.getElem?_toArray, List.getElem?_cons_zero] at hyc
  have HW0 := Lib.hid hw1; have HH0 := Lib.hid hh0; have HB0 := Lib.hid hb0; have HST0 := Lib.hid hst0; have HL0 := Lib.hid hl0
  clear hw1 hh0 hb0 hst0 hbel0 hl0 h hl hp1 hp2 hr3 hr4 hZ1
  go_enter Tryz.func64, Tryz.ntmps64
  go_wp2_with fail
  rw [HZ1.out]
  clear HZ1
  refine hc1.mono ?_
  rintro e w1 ⟨rfl, h1, h2⟩
  have hstx := HST0.out.trans h2
  have hbx := h2.blk HW0.out HB0.out (by decide) (by omega)
  have hhx := h2.blk HW0.out HH0.out (by decide) (by omega)
  have hlx := HL0.out.below ((h2.below HW0.out).mono hB)
  have hyc := hhx.cell 0
  obtain ⟨y0, y1, y2, y3, y4, y5, y6, y7, y8, y9, y10, y11, y12, y13, y14, y15, y16, y17⟩ := hbx.eighteen
  simp only [List.getElem?_toArray, List.getElem?_cons_zero] at hyc
  obtain ⟨hp1, hp2, hr3, hr4⟩ := law_parts hlx
  have hcx := pattern_any 40 left k1 s1 n1 lo1 hi1 A1 m1 c1 w1 base g B _ hz1 (by omega) ho1 hp1 hB h1 (by rw [List.length_append]; omega)
  have HW1 := Lib.hid h1; have HH1 := Lib.hid hhx; have HB1 := Lib.hid hbx; have HST1 := Lib.hid hstx; have HL1 := Lib.hid hlx; have hc2 := hcx
  clear h1 h2 hstx hbx hhx hlx hcx hp1 hp2 hr3 hr4
  go_wp2_with fail
  refine hc2.mono ?_
  rintro e w2 ⟨rfl, h1, h2⟩
  have hstx := HST1.out.trans h2
  have hbx := h2.blk HW1.out HB1.out (by decide) (by omega)
  have hhx := h2.blk HW1.out HH1.out (by decide) (by omega)
  have hlx := HL1.out.below ((h2.below HW1.out).mono hB)
  have hyc := hhx.cell 0
  obtain ⟨y0, y1, y2, y3, y4, y5, y6, y7, y8, y9, y10, y11, y12, y13, y14, y15, y16, y17⟩ := hbx.eighteen
  simp only [List.getElem?_toArray, List.getElem?_cons_zero] at hyc
  obtain ⟨hp1, hp2, hr3, hr4⟩ := law_parts hlx
  have hcx := pattern_any 40 right k2 s2 n2 lo2 hi2 A2 m2 c2 w2 base g B _ hz2 (by omega) ho2 hp2 hB h1 (by rw [List.length_append, List.length_append]; omega)
  have HW2 := Lib.hid h1; have HH2 := Lib.hid hhx; have HB2 := Lib.hid hbx; have HST2 := Lib.hid hstx; have HL2 := Lib.hid hlx; have hc3 := hcx
  clear h1 h2 hstx hbx hhx hlx hcx hp1 hp2 hr3 hr4
  go_wp2_with fail
  refine hc3.mono ?_
  rintro e w3 ⟨rfl, h1, h2⟩
  have hstx := HST2.out.trans h2
  have hbx := h2.blk HW2.out HB2.out (by decide) (by omega)
  have hhx := h2.blk HW2.out HH2.out (by decide) (by omega)
  have hlx := HL2.out.below ((h2.below HW2.out).mono hB)
  have hyc := hhx.cell 0
  obtain ⟨y0, y1, y2, y3, y4, y5, y6, y7, y8, y9, y10, y11, y12, y13, y14, y15, y16, y17⟩ := hbx.eighteen
  simp only [List.getElem?_toArray, List.getElem?_cons_zero] at hyc
  obtain ⟨hp1, hp2, hr3, hr4⟩ := law_parts hlx
  have hcx := allSnd_any w3 base g B A3 ifs.length c3 ifs _ h1 hr3 hB (by omega) hs3 (by rw [List.length_append, List.length_append, List.length_append]; omega)
  have HW3 := Lib.hid h1; have HH3 := Lib.hid hhx; have HB3 := Lib.hid hbx; have HST3 := Lib.hid hstx; have HL3 := Lib.hid hlx; have hc4 := hcx
  clear h1 h2 hstx hbx hhx hlx hcx hp1 hp2 hr3 hr4
  go_wp2_with fail
  refine hc4.mono ?_
  rintro e w4 ⟨rfl, h1, h2⟩
  have hstx := HST3.out.trans h2
  have hbx := h2.blk HW3.out HB3.out (by decide) (by omega)
  have hhx := h2.blk HW3.out HH3.out (by decide) (by omega)
  have hlx := HL3.out.below ((h2.below HW3.out).mono hB)
  have hyc := hhx.cell 0
  obtain ⟨y0, y1, y2, y3, y4, y5, y6, y7, y8, y9, y10, y11, y12, y13, y14, y15, y16, y17⟩ := hbx.eighteen
  simp only [List.getElem?_toArray, List.getElem?_cons_zero] at hyc
  obtain ⟨hp1, hp2, hr3, hr4⟩ := law_parts hlx
  have hcx := allOut_any w4 base g w.heap.size B A4 outs.length c4 outs _ h1 hhx hr4 hB hm4 hs4 (by rw [List.length_append, List.length_append, List.length_append, List.length_append]; omega)
  have HW4 := Lib.hid h1; have HH4 := Lib.hid hhx; have HB4 := Lib.hid hbx; have HST4 := Lib.hid hstx; have HL4 := Lib.hid hlx; have hc5 := hcx
  clear h1 h2 hstx hbx hhx hlx hcx hp1 hp2 hr3 hr4
  go_wp2_with fail
  refine hc5.mono ?_
  rintro e w5 ⟨rfl, h1, h2⟩
  have hstx := HST4.out.trans h2
  have hbx := h2.blk HW4.out HB4.out (by decide) (by omega)
  have hhx := h2.blk HW4.out HH4.out (by decide) (by omega)
  have hlx := HL4.out.below ((h2.below HW4.out).mono hB)
  have hyc := hhx.cell 0
  obtain ⟨y0, y1, y2, y3, y4, y5, y6, y7, y8, y9, y10, y11, y12, y13, y14, y15, y16, y17⟩ := hbx.eighteen
  simp only [List.getElem?_toArray, List.getElem?_cons_zero] at hyc
  obtain ⟨hp1, hp2, hr3, hr4⟩ := law_parts hlx
  have hcx := count_int w5 base g mode _ h1 hmo hmo2 (by rw [List.length_append, List.length_append, List.length_append, List.length_append, List.length_append]; omega)
  have HW5 := Lib.hid h1; have HH5 := Lib.hid hhx; have HB5 := Lib.hid hbx; have HST5 := Lib.hid hstx; have HL5 := Lib.hid hlx; have hc6 := hcx
  clear h1 h2 hstx hbx hhx hlx hcx hp1 hp2 hr3 hr4
  go_wp2_with fail
  refine hc6.mono ?_
  rintro e w6 ⟨rfl, h1, h2⟩
  have HE := Lib.hid h1; have HF := Lib.hid h2
  clear h1 h2
  go_wp2
  go_end0
  exact ⟨rfl, by rw [← List.append_assoc, ← List.append_assoc, ← List.append_assoc, ← List.append_assoc, ← List.append_assoc]; exact HE.out, HST5.out.trans HF.out⟩
end Go.Proofs.YtmepaeahchiglaaGreatDoor
namespace Go.Proofs.YtmepaeahchiglaaGreatDoor
open Go.RowKit Go.Maps Go.WideMaps

theorem keyS_ : Keyed Tryz.prog 9 := string_keyed Tryz.underlying9
def MapSI (w : World) (b n : Nat) (f : ByteArray → Option Int) : Prop :=
  ∃ D : DataW Unit, w.ownsMap Tryz.prog 9 (plainElem Tryz.prog 3) b n D ∧ IsMap D ∧
    ∀ s : ByteArray, has D (.string s.data.toList) = (f s).isSome ∧ ∀ v, f s = some v → D.atKey (.string s.data.toList) (.lit (.int .i64 0)) = .lit (.int .i64 v)
theorem MapSI.lt {w : World} {b n : Nat} {f : ByteArray → Option Int} (h : MapSI w b n f) : b < w.heap.size := by
  obtain ⟨D, h1, _⟩ := h; exact h1.lt
theorem MapSI.made (w : World) : MapSI (w.alloc (.map #[] 0)) w.heap.size 0 (fun _ => none) :=
  ⟨.map [], World.ownsMap_made w _ _ _, isMap_empty, fun s => ⟨rfl, fun v h => by cases h⟩⟩
theorem MapSI.kept {w w' : World} {b n : Nat} {f : ByteArray → Option Int} {row : Option Nat} (h : MapSI w b n f) (hg : w.grownBy w' row) (hne : some b ≠ row) : MapSI w' b n f := by
  obtain ⟨D, h1, h2⟩ := h; exact ⟨D, h1.kept hg hne, h2⟩
theorem MapSI.below {w w' : World} {b n : Nat} {f : ByteArray → Option Int} (h : MapSI w b n f) (hb : Below w.heap.size w w') : MapSI w' b n f :=
  h.kept (row := none) ⟨hb.os, hb.tape, hb.output, hb.size, fun i hi _ => hb.block i hi⟩ (by simp)
theorem MapSI.isMap {w : World} {b n : Nat} {f : ByteArray → Option Int} (h : MapSI w b n f) : ∃ es clock, w.heap[b]? = some (.map es clock) := by
  obtain ⟨D, ⟨es, clock, hb, _⟩, _⟩ := h; exact ⟨es, clock, hb⟩
theorem key_string {s : ByteArray} (hs : s.size ≤ maxLen) : keyOf Tryz.prog 9 (.string s) = some (.string s.data.toList) := keyOf_string_mk Tryz.underlying9 hs
theorem zero_int (w : World) : (zeroValue 3).run Tryz.prog w = .ok (.int .i64 0) w := by kernel_rfl
/-- 'v, ok := m[s]'. -/
theorem MapSI.look {w : World} {b n : Nat} {f : ByteArray → Option Int} (h : MapSI w b n f) (s : ByteArray) (hs : s.size ≤ maxLen) :
    (Instr.lookup 240 (.map (some b)) (.string s) true).run Tryz.prog w = .ok (.tuple #[.int .i64 ((f s).getD 0), .bool (f s).isSome]) w := by
  obtain ⟨D, h1, h2, h3⟩ := h
  obtain ⟨v, ps, hrun, hv⟩ := h1.look_ok keyS_ Tryz.underlying240 (zero_int w) (plainElem_int (H := Unit) (a := 0) Tryz.underlying3 (by decide)) (key_string hs)
  obtain ⟨c, rfl, hc, _⟩ := plainElem_int_inv Tryz.underlying3 hv
  simp only [Prod.mk.injEq] at hc
  rw [hrun, (h3 s).1]
  cases hf : f s with
  | none =>
    have hh : has D (.string s.data.toList) = false := by rw [(h3 s).1, hf]; rfl
    rw [atKey_of_not_has hh] at hc
    have : c = 0 := (Lit.int.inj (DataW.lit.inj hc.1)).2.symm
    subst this; simp only [Option.isSome_none, Option.getD_none]
  | some x =>
    rw [(h3 s).2 x hf] at hc
    have : c = x := (Lit.int.inj (DataW.lit.inj hc.1)).2.symm
    subst this; simp only [Option.isSome_some, Option.getD_some]
/-- 'm[s] = v'. -/
theorem wpList_putSI {w : World} {ops : Array Oper} {rest : List Oper} {o : Oper} {a : Act} {Q : Exit → Act → World → Prop}
    (hg : o.guard = none) (m x v : Operand) (hop : o.op = Op.mapUpdate 240 m x v) (b n : Nat) (f : ByteArray → Option Int) (hm : a.eval m = .map (some b)) (h : MapSI w b n f) (hn : n < maxLen)
    (s : ByteArray) (hs : s.size ≤ maxLen) (i : Int) (hi : (Lit.int .i64 i).wf = true) (hx : a.eval x = .string s) (hv : a.eval v = .int .i64 i)
    (hK : ∀ w', MapSI w' b (n + 1) (fun t => if t = s then some i else f t) → w.grownBy w' (some b) → wpList Tryz.prog ops Q rest (a.put o.dst undef) w') :
    wpList Tryz.prog ops Q (o :: rest) a w := by
  obtain ⟨D, h1, h2, h3⟩ := h
  refine wpList_mapUpdate_own w hg m x v 240 hop 9 3 keyS_ Tryz.underlying240 _ b n D hm h1 hn (.string s) (.int .i64 i) (.string s.data.toList) hx hv (key_string hs) (.lit (.int .i64 i)) [] (plainElem_int Tryz.underlying3 hi) ?_
  intro w1 hown hgrow
  refine hK w1 ⟨_, hown, h2.put _ _, fun t => ?_⟩ hgrow
  have hlit : WideAt.IsKeyLit (.string s.data.toList) := by first | trivial | rfl | (unfold WideAt.IsKeyLit; trivial)
  by_cases e : t = s
  · subst e
    simp only [↓reduceIte]
    exact ⟨has_put_same h2 hlit _, fun v hv => by injection hv with hv; subst hv; exact atKey_put_same h2 hlit _ _⟩
  · simp only [if_neg e]
    have hne : (Lit.string t.data.toList) ≠ .string s.data.toList := fun h => e (by
      injection h with h
      obtain ⟨⟨l⟩⟩ := t; obtain ⟨⟨l'⟩⟩ := s
      simp only at h; rw [h])
    rw [has_put_other hne, atKey_put_other hne]
    exact h3 t
end Go.Proofs.YtmepaeahchiglaaGreatDoor
namespace Go.Proofs.YtmepaeahchiglaaGreatDoor
open Go.RowKit Go.Lib

def okByte (c : UInt8) : Bool := (decide (97 ≤ c.toNat) && decide (c.toNat ≤ 122)) || (decide (65 ≤ c.toNat) && decide (c.toNat ≤ 90)) || (decide (48 ≤ c.toNat) && decide (c.toNat ≤ 57)) || decide (c.toNat = 45)
def okName (s : ByteArray) : Bool := decide (0 < s.size) && decide (s.size ≤ 24) && s.data.toList.all okByte
/-- The bytes of names. -/
def lettersB : ByteArray := ⟨#[97, 98, 99, 100, 101, 102, 103, 104, 105, 106, 107, 108, 109, 110, 111, 112, 113, 114, 115, 116, 117, 118, 119, 120, 121, 122, 65, 66, 67, 68, 69, 70, 71, 72, 73, 74, 75, 76, 77, 78, 79, 80, 81, 82, 83, 84, 85, 86, 87, 88, 89, 90, 48, 49, 50, 51, 52, 53, 54, 55, 56, 57, 45]⟩
theorem okByte_mem (c : UInt8) : okByte c = lettersB.data.toList.contains c := by
  have h : ∀ n : Fin 256, okByte (UInt8.ofNat n.val) = lettersB.data.toList.contains (UInt8.ofNat n.val) := by decide +kernel
  have := h ⟨c.toNat, c.toNat_lt⟩
  simpa using this
theorem dropWhile_nil {α : Type} (p : α → Bool) (l : List α) : l.dropWhile p = [] ↔ l.all p = true := by
  induction l with
  | nil => simp
  | cons x l ih =>
    rw [List.dropWhile_cons]
    cases h : p x <;> simp [h, ih]
theorem all_takeWhile {α : Type} (p : α → Bool) (l : List α) : (l.takeWhile p).all p = true := by
  induction l with
  | nil => rfl
  | cons x l ih =>
    rw [List.takeWhile_cons]
    cases h : p x
    · simp
    · simp only [if_true, List.all_cons, h, Bool.true_and]; exact ih
theorem trim_nil (l cs : List UInt8) : Lib.trimS l cs = [] ↔ l.all (fun b => cs.contains b) = true := by
  unfold Lib.trimS Lib.trimRightS Lib.trimLeftS
  rw [dropWhile_nil, List.all_reverse]
  have h3 := List.takeWhile_append_dropWhile (p := fun b => cs.contains b) (l := l.reverse)
  have h4 := all_takeWhile (fun b => cs.contains b) l.reverse
  constructor
  · intro h
    have : (l.reverse).all (fun b => cs.contains b) = true := by rw [← h3, List.all_append, h4, h]; rfl
    rwa [List.all_reverse] at this
  · intro h
    have : (l.reverse).all (fun b => cs.contains b) = true := by rw [List.all_reverse]; exact h
    rw [← h3, List.all_append, h4, Bool.true_and] at this
    exact this
theorem trimN_any (s : ByteArray) (w : World) (hs : s.size ≤ maxLen) : Calls Tryz.prog 142 #[.string s, .string lettersB] w fun e w' => ∃ t : ByteArray, e = .returned (.string t) ∧ (t.data.toList = [] ↔ s.data.toList.all okByte = true) ∧ Below w.heap.size w w' := by
  refine (Any.strings_Trim_laid Tryz.lays160 (by kernel_rfl) s lettersB w (by unfold maxLen at hs; exact hs) (by decide) (ascii_of_all (by decide))).mono ?_
  rintro e w' ⟨rfl, hb⟩
  refine ⟨_, rfl, ?_, hb⟩
  show Lib.trimS s.data.toList lettersB.data.toList = [] ↔ _
  rw [trim_nil]
  have : okByte = fun b => lettersB.data.toList.contains b := by funext b; exact okByte_mem b
  rw [this]
theorem okName_nil {x : ByteArray} (h : x.data.toList = []) : okName x = false := by
  have : x.size = 0 := by rw [Lib.size_eq, h]; rfl
  unfold okName; rw [this]; rfl
theorem okName_long {x : ByteArray} (h : 24 < x.size) : okName x = false := by
  unfold okName; rw [decide_eq_false (show ¬ x.size ≤ 24 by omega)]; simp
theorem okName_byte {x : ByteArray} (h : x.data.toList.all okByte = false) : okName x = false := by unfold okName; rw [h]; simp
theorem okName_yes {x : ByteArray} (h1 : x.data.toList ≠ []) (h2 : ¬ 24 < x.size) (h3 : x.data.toList.all okByte = true) : okName x = true := by
  have : 0 < x.size := by
    rw [Lib.size_eq]
    cases h : x.data.toList with
    | nil => exact absurd h h1
    | cons a l => simp
  unfold okName; rw [h3, decide_eq_true this, decide_eq_true (show x.size ≤ 24 by omega)]; rfl
set_option maxRecDepth 20000 in
set_option maxHeartbeats 1000000 in
theorem named_any (x : ByteArray) (w : World) (hsz : x.size ≤ maxLen) : Calls Tryz.prog 69 #[.string x] w fun e w' => e = .returned (.bool (okName x)) ∧ Below w.heap.size w w' := by
  by_cases hx0 : x.data.toList = []
  · have hxe : x.toList = [] := by rw [Lib.toList_data]; exact hx0
    have hxe2 : x.toList.isEmpty = true := by rw [hxe]; rfl
    have hxe3 : (x.toList == []) = true := by rw [hxe]; rfl
    rw [okName_nil hx0]
    clear hx0
    go_enter Tryz.func69, Tryz.ntmps69
    go_wp2
    go_ret
    exact ⟨rfl, Below.refl _ _⟩
  · have hxe : x.toList.isEmpty = false := by rw [Lib.toList_data, List.isEmpty_eq_false_iff]; exact hx0
    have hxe2 : (x.toList == []) = false := by rw [Lib.toList_data, beq_eq_false_iff_ne]; exact hx0
    have hxe3 : ¬ x.toList = [] := by rw [Lib.toList_data]; exact hx0
    have HX := Lib.hid hx0
    clear hx0
    by_cases hx2 : 24 < x.size
    · have hx2I : ¬ (x.size : Int) ≤ 24 := by omega
      have hx2d : decide ((x.size : Int) ≤ 24) = false := decide_eq_false hx2I
      rw [okName_long hx2]
      clear hx2
      go_enter Tryz.func69, Tryz.ntmps69
      go_wp2
      go_ret
      exact ⟨rfl, Below.refl _ _⟩
    · have hx2I : (x.size : Int) ≤ 24 := by omega
      have hcall := trimN_any x w hsz
      have HX2 := Lib.hid hx2
      clear hx2
      cases hall : x.data.toList.all okByte
      · rw [okName_byte hall]
        have HALL := Lib.hid hall
        clear hall
        go_enter Tryz.func69, Tryz.ntmps69
        go_wp2_with fail
        refine hcall.mono ?_
        rintro e w1 ⟨t, rfl, ht, hb1⟩
        have hte : ¬ t.toList = [] := by
          rw [Lib.toList_data]; intro h
          have := ht.1 h
          rw [HALL.out] at this; cases this
        have hte2 : t.toList.isEmpty = false := by rw [List.isEmpty_eq_false_iff]; exact hte
        have hte3 : (t.toList == []) = false := by rw [beq_eq_false_iff_ne]; exact hte
        have HB1 := Lib.hid hb1
        clear ht hb1 hcall
        go_wp2
        go_ret
        exact ⟨rfl, HB1.out⟩
      · rw [okName_yes HX.out HX2.out hall]
        have HALL := Lib.hid hall
        clear hall
        go_enter Tryz.func69, Tryz.ntmps69
        go_wp2_with fail
        refine hcall.mono ?_
        rintro e w1 ⟨t, rfl, ht, hb1⟩
        have hte : t.toList = [] := by rw [Lib.toList_data]; exact ht.2 HALL.out
        have hte2 : t.toList.isEmpty = true := by rw [hte]; rfl
        have hte3 : (t.toList == []) = true := by rw [hte]; rfl
        have HB1 := Lib.hid hb1
        clear ht hb1 hcall
        go_wp2
        go_ret
        exact ⟨rfl, HB1.out⟩
end Go.Proofs.YtmepaeahchiglaaGreatDoor
